/- A proved evaluator for translated functions, part 2: what it computes is what the machine does. No conditions. -/
import Derived.Test.YtlndfmmigndgeaaEv1
/- New variables in memory. -/
namespace Go.Proofs.Ytlndfmmigndgeaa.Ev
open Go
set_option linter.unusedSimpArgs false
set_option linter.unusedVariables false

theorem cells_one {v : Value} (h : v.oneCell' = true) : v.cells = #[v] := by cases v <;> first | (simp [Value.oneCell'] at h; done) | rfl

theorem SV_cells {R : Cx} {v : AV} {K : Key} {val : Value} (hb : v.isBad = false) (h : SV R v K val) : VR R v K val.cells.toList := by
  obtain ⟨h1, h2⟩ := AV.notBad hb
  rw [SV_VV h2, VV_iff h1] at h
  split at h
  · obtain ⟨arr, rfl, h⟩ := h; exact h
  · rw [cells_one (h.one val (by simp))]; exact h

theorem heap_alloc_old {w : World} {o : Obj} {b : Nat} {x : Obj} (h : w.heap[b]? = some x) : (w.alloc o).heap[b]? = some x := by
  have hb := (Array.getElem?_eq_some_iff.1 h).1
  show (w.heap.push o)[b]? = some x
  rw [Array.getElem?_push_lt hb]
  rw [← h, Array.getElem?_eq_getElem hb]

theorem heap_alloc_new (w : World) (o : Obj) : (w.alloc o).heap[w.heap.size]? = some o := by
  show (w.heap.push o)[w.heap.size]? = some o
  simp

theorem kb_lv (st : St) (s : Nat) : (st.kb 0 s).lv = st.length - 1 := by simp [St.kb]

theorem kb_apart {st : St} {i n j m : Nat} (hi : i < st.length) (hj : j < st.length) (h : ¬ (i = j ∧ n = m)) : (st.kb i n).apart (st.kb j m) := by
  refine Key.apart_reg ?_
  rintro ⟨h1, h2, _⟩
  simp only [St.kb] at h1 h2
  exact h ⟨by omega, h2⟩

/-- A hand into a new box. -/
theorem Rel.boxed {w0 : Base} {w : World} {st : St} {t0 : Array Value} {ts : List (Array Value)} {R : Cx} (h : Rel w0 st (t0 :: ts) R w) {t : Nat} {s : Slot} (hg : st.get 0 t = some s) (hf : s.fb = false) {j : Nat} {v : AV} {cs : Array Value}
    (hv : VR R v (st.hand j) cs.toList) (el : TypeId) :
    ∃ R', Rel w0 (st.set 0 t { s with v := .ptr ⟨⟨0, t, true⟩, [.r 0]⟩, b := .pair .unit v, fb := true }) (t0.setIfInBounds t (.pointer (some ⟨w.heap.size, 0, none⟩)) :: ts) R' (w.alloc (.cells cs el)) := by
  have hlt := h.size_lt hg
  have hN : 0 < st.length := St.get_lt hg
  let s' : Slot := { s with v := .ptr ⟨⟨0, t, true⟩, [.r 0]⟩, b := .pair .unit v, fb := true }
  let st' := st.set 0 t s'
  let A := st.hand j
  let B := (st.kb 0 t).child (.r 0)
  have hBk : B.under (st.kb 0 t) := Key.child_under _ _
  let R' : Cx := { ρ := fun K => if K = st.kb 0 t then some (.blk w.heap.size 0) else (R.mv A B).ρ K, Z := R.Z, h := (w.alloc (.cells cs el)).heap, fl := st'.fl }
  have hold : ∀ (b : Nat) (o : Obj), R.h[b]? = some o → R'.h[b]? = some o := by intro b o e; rw [h.hh] at e; exact heap_alloc_old e
  have nokb : ∀ T : Key, R.fl T.lv T.s T.bx = true → ¬ T.under (st.kb 0 t) := by
    intro T e hT
    rw [fl_under hT, h.fl] at e
    simp only [St.fl, St.kb, Nat.sub_zero, Nat.sub_self, hg, Slot.flag, hf] at e
    simp at e
  have nohand : ∀ T : Key, R.fl T.lv T.s T.bx = true → ¬ T.under A := by
    intro T e hT; rw [fl_under hT, h.fl_hand] at e; simp at e
  have flmono : ∀ lv n bx, R.fl lv n bx = true → st'.fl lv n bx = true := by
    intro lv n bx e
    rw [h.fl] at e
    simp only [St.fl, st', St.length_set, St.get_set] at e ⊢
    by_cases hc : st.length - 1 - lv = 0 ∧ n = t
    · rw [if_pos hc, hg]
      obtain ⟨hc1, rfl⟩ := hc
      rw [hc1, hg] at e
      simp only [Option.map_some]
      cases bx
      · simp only [Slot.flag, Bool.and_eq_true] at e ⊢; exact e
      · simp only [Slot.flag, Bool.and_eq_true] at e ⊢; exact ⟨e.1, rfl⟩
    · rw [if_neg hc]; exact e
  have hρ : ∀ T : Key, ¬ T.under (st.kb 0 t) → ¬ T.under A → R'.ρ T = R.ρ T := by
    intro T h1 h2
    have : T ≠ st.kb 0 t := by rintro rfl; exact h1 (Key.under_refl _)
    simp only [R', if_neg this]
    exact R.mv_off h2 (fun e => h1 (Key.under_trans e hBk))
  have ok : ∀ K b, K.apart A → K.apart (st.kb 0 t) → R.Ok R' K b := by
    intro K b h1 h2
    refine ⟨⟨fun _ => id, fun b o _ => hold b o, fun T hT => hρ T (h2 T hT) (h1 T hT), fun T b n o _ _ => hold b o⟩, ?_⟩
    intro T _ e
    exact ⟨flmono _ _ _ e, .inr ⟨hρ T (nokb T e) (nohand T e), fun b n arr el _ e => ⟨arr, hold _ _ e, rfl⟩⟩⟩
  have some_blk : ∀ {K b n}, R'.ρ K = some (.blk b n) → (K = st.kb 0 t ∧ b = w.heap.size) ∨ ((R.mv A B).ρ K = some (.blk b n) ∧ b < w.heap.size ∧ w0.heap.size ≤ b ∧ (∀ b', R.Z b' → b' ≠ b)) := by
    intro K b n e
    simp only [R'] at e
    split at e
    · rename_i hk; simp only [Option.some.injEq, Nd.blk.injEq] at e; exact .inl ⟨hk, e.1.symm⟩
    · obtain ⟨K', e', _⟩ := Cx.mv_some e
      exact .inr ⟨e, h.lt _ _ _ e', h.lo _ _ _ e', fun b' hb e2 => h.zd b' hb K' n (e2 ▸ e')⟩
  have hw0 : w0.heap.size ≤ w.heap.size := h.bel.size
  have hsz : (w.alloc (.cells cs el)).heap.size = w.heap.size + 1 := by show (w.heap.push _).size = _; simp
  have hmv : VR (R.mv A B) v B cs.toList := VR.mv_self (A := A) (B := B) (R := R) (by simp [A, B, St.hand, St.kb, Key.child]) (q := []) (fun T _ e hT => nokb T e (Key.under_trans hT hBk)) hv
  have hnew : VR R' v B cs.toList := by
    refine VR.frame (R := R.mv A B) (AV.le_refl _) ⟨fun _ => id, fun b o _ => hold b o, ?_, fun T b n o _ _ => hold b o⟩ ?_ hmv
    · intro T hT
      have : T ≠ st.kb 0 t := by
        rintro rfl
        have := hT.2.2.2.length_le
        simp [B, Key.child, St.kb] at this
      simp only [R', if_neg this]
    · intro T _ e
      refine ⟨flmono _ _ _ e, .inr ⟨?_, fun b n arr el _ e => ⟨arr, hold _ _ e, rfl⟩⟩⟩
      have : T ≠ st.kb 0 t := by rintro rfl; exact nokb _ e (Key.under_refl _)
      simp only [R', if_neg this]
  refine ⟨R', h.step1 (st' := st') (R' := R') (by simp [st', St.length_set]) (fun i => by simp only [st', St.frames_set]) (by simp) rfl (fun _ _ _ => rfl) ?_ ?_ ?_ ?_ ?_ ?_ ?_ ?_⟩
  · intro i n sl' hsl
    simp only [st', St.get_set] at hsl
    split at hsl
    · rename_i hc
      obtain ⟨rfl, rfl⟩ := hc
      simp only [hg, Option.map_some, Option.some.injEq] at hsl
      subst hsl
      refine ⟨s, hg, .inr ⟨rfl, ?_⟩⟩
      rw [getD_set, if_pos ⟨rfl, hlt⟩]
      refine ⟨_, rfl, ⟨Nat.zero_le _, ?_⟩, ?_⟩
      · show st'.fl ((st.kv 0 n).lv - 0) n true = true
        simp only [St.fl, St.kv, st', St.length_set, St.get_set, Nat.sub_zero, Nat.sub_self, hg]
        simp [s', Slot.flag]; omega
      · have : ((st.kv 0 n).at ⟨⟨0, n, true⟩, [.r 0]⟩).node = st.kb 0 n := by simp [Key.at, Key.node, nodeOf, St.kv, St.kb]
        rw [this]
        simp only [R', if_true]
        rfl
    · rename_i hc
      refine ⟨sl', hsl, .inl ⟨AV.le_refl _, ?_, ok _ _ (kv_hand_apart' st j hsl) (Key.apart_symm (kb_kv_apart _ _ _ _ _))⟩⟩
      intro hi; rw [getD_set, if_neg]; rintro ⟨h1, _⟩; exact hc ⟨hi, h1⟩
  · intro i n sl' hsl
    simp only [st', St.get_set] at hsl
    split at hsl
    · rename_i hc
      obtain ⟨rfl, rfl⟩ := hc
      simp only [hg, Option.map_some, Option.some.injEq] at hsl
      subst hsl
      refine ⟨s, hg, .inr (.inr ⟨w.heap.size, cs, el, by simp only [R', if_true], heap_alloc_new _ _, ?_⟩)⟩
      exact ⟨[], cs.toList, rfl, rfl, hnew⟩
    · rename_i hc
      exact ⟨sl', hsl, .inl ⟨AV.le_refl _, ok _ _ (kb_hand_apart _ _ _ _) (kb_apart (St.get_lt hsl) hN hc)⟩⟩
  · intro K K' b n m e1 e2
    rcases some_blk e1 with ⟨k1, b1⟩ | ⟨k1, b1, _⟩ <;> rcases some_blk e2 with ⟨k2, b2⟩ | ⟨k2, b2, _⟩
    · rw [k1, k2]
    · omega
    · omega
    · exact h.inj.mv _ _ _ _ _ _ _ k1 k2
  · intro b hb K n e
    rcases some_blk e with ⟨_, b1⟩ | ⟨_, _, _, b2⟩
    · have := h.zlt b hb; omega
    · exact b2 b hb rfl
  · intro K b n e
    rcases some_blk e with ⟨_, b1⟩ | ⟨_, _, b2, _⟩
    · omega
    · exact b2
  · intro K b n e
    rcases some_blk e with ⟨_, b1⟩ | ⟨_, b2, _⟩ <;> omega
  · intro b hb; have := h.zlt b hb; omega
  · exact h.bel.alloc hw0 _

theorem newBox_ok {C : Orc} {w0 : Base} {w : World} {st : St} {a : Act} {ts : List (Array Value)} {R : Cx} (h : Rel w0 st (a.tmps :: ts) R w) {o : Oper} {v : AV} {k : Unit → St → Prop} (hw : (newBox o v).wp C st k) {j : Nat} {val : Value}
    (hv : VR R v (st.hand j) val.cells.toList) (el : TypeId) :
    ∃ st1 R1, k () st1 ∧ Rel w0 st1 ((a.put o.dst (.pointer (some ⟨w.heap.size, 0, none⟩))).tmps :: ts) R1 (w.alloc (.cells val.cells el)) := by
  cases hd : o.dst with
  | none => rw [newBox, hd] at hw; exact hw.elim
  | some t =>
    rw [newBox, hd] at hw
    simp only at hw
    by_cases hb : v.isBad = true
    · rw [if_pos hb] at hw; exact hw.elim
    rw [if_neg hb, M.wp_rd] at hw
    obtain ⟨s, hs, hk⟩ := hw
    by_cases hf : s.fb = true
    · rw [if_pos hf] at hk; exact hk.elim
    rw [if_neg hf, M.wp_wr] at hk
    obtain ⟨R', hR⟩ := h.boxed hs (by simpa using hf) hv el
    exact ⟨_, R', hk.2, hR⟩

theorem OpOk.box {P : Program} {E : Env} {C : Orc} {o : Oper} {t : TypeId} {x : Operand} (ho : o.op = .box t x) : OpOk P E C o := by
  intro w0 st a ts R w k next Q h hw hn
  simp only [evOp, ho, M.wp_bind] at hw
  obtain ⟨v, st1, R1, hk, h1, hl, hh, _, hv⟩ := takeOp_ok h hw 0
  rw [← hh 0] at hv
  obtain ⟨u, R2, hk, h2, _, hv⟩ := typed_ok h1 hk hv
  have hb : u.isBad = false := by
    cases hd : o.dst with
    | none => rw [newBox, hd] at hk; exact hk.elim
    | some t =>
      rw [newBox, hd] at hk
      by_cases hb : u.isBad = true
      · simp only at hk; rw [if_pos hb] at hk; exact hk.elim
      · simpa using hb
  obtain ⟨st3, R3, hk, h3⟩ := newBox_ok h2 hk (SV_cells hb hv) t
  have hrun : (execOp a.eval o).run P w = .ok (.value (.pointer (some ⟨w.heap.size, 0, none⟩))) (w.alloc (.cells (a.eval x).cells t)) := by
    simp only [execOp, ho]
    simp [Instr.box, newVar, newRow]
  simp only [Oper.wp, hrun, Oper.upon]
  exact hn _ st3 R3 _ (put_defers _ _ _) h3 hk

/-- A zero value in a hand. -/
theorem Rel.zeroHand {w0 : Base} {w : World} {st : St} {ts : List (Array Value)} {R : Cx} (h : Rel w0 st ts R w) (j : Nat) (nest : Bool) (s : Sh) :
    ∃ R', Rel w0 st ts R' w ∧ Kept R R' st j ∧ VR R' (zeroAV nest s) (st.hand j) (zeroCells s) := by
  let R' : Cx := { R with ρ := fun K => if K.under (st.hand j) then some .nil else R.ρ K }
  have some_blk : ∀ {K b n}, R'.ρ K = some (.blk b n) → R.ρ K = some (.blk b n) := by
    intro K b n e
    simp only [R'] at e
    split at e
    · simp at e
    · exact e
  obtain ⟨h1, h2⟩ := h.handStep (R' := R') (w' := w) j (fun K hK => by simp only [R', if_neg hK]) (fun _ => id) rfl h.hh (fun _ _ _ => id)
    (fun K K' b n m e1 e2 => h.inj _ _ _ _ _ (some_blk e1) (some_blk e2)) (fun b hb K n e => h.zd b hb K n (some_blk e)) (fun K b n e => h.lo K b n (some_blk e)) (fun K b n e => h.lt K b n (some_blk e)) h.zlt h.bel
  refine ⟨R', h1, h2, ?_⟩
  have key : ∀ (s : Sh) (K : Key), K.under (st.hand j) → VR R' (zeroAV nest s) K (zeroCells s) := by
    intro s
    induction s with
    | pair a b iha ihb =>
      intro K hK
      exact ⟨_, _, rfl, iha _ (Key.under_trans (Key.child_under _ _) hK), ihb _ (Key.under_trans (Key.child_under _ _) hK)⟩
    | sl e ih =>
      intro K hK
      simp only [zeroAV, zeroCells, VR, OR]
      exact .inl ⟨by simp only [R', if_pos hK], trivial, trivial⟩
    | unit => intro K hK; exact rfl
    | _ => intro K hK; exact DR_zero _
  exact key s _ (Key.under_refl _)

theorem OpOk.alloc {P : Program} {E : Env} (hE : EnvOk P E) {C : Orc} {o : Oper} {t : TypeId} (ho : o.op = .alloc t) : OpOk P E C o := by
  intro w0 st a ts R w k next Q h hw hn
  simp only [evOp, ho] at hw
  split at hw
  · rename_i s hs
    obtain ⟨R1, h1, _, hv⟩ := h.zeroHand 0 E.nest s
    obtain ⟨i, z, hi, _, hz, hc⟩ := tyB_info (hE.sh _ _ hs)
    have hcells : z.cells.toList = zeroCells s := by
      rcases hc with ⟨_, cs, rfl, e⟩ | ⟨_, e⟩
      · exact e
      · have : z.oneCell' = true := by
          have hv := VR.one hv
          rw [← e] at hv
          exact hv z (by simp)
        rw [cells_one this]; exact e
    rw [← hcells] at hv
    obtain ⟨st3, R3, hk, h3⟩ := newBox_ok h1 hw hv t
    have hrun : (execOp a.eval o).run P w = .ok (.value (.pointer (some ⟨w.heap.size, 0, none⟩))) (w.alloc (.cells z.cells t)) := by
      simp only [execOp, ho]
      simp [Instr.alloc, run_zero hi hz, newVar, newRow]
    simp only [Oper.wp, hrun, Oper.upon]
    exact hn _ st3 R3 _ (put_defers _ _ _) h3 hk
  · exact hw.elim

end Go.Proofs.Ytlndfmmigndgeaa.Ev

/- Arrays of data. -/
namespace Go.Proofs.Ytlndfmmigndgeaa.Ev
open Go
set_option linter.unusedSimpArgs false
set_option linter.unusedVariables false

theorem zip_of_idx' : ∀ (us : List (Nat × Value)) (i : Nat), us.map (·.1) = List.range' i us.length → us = ((us.map (·.2)).zipIdx i).map fun x => (x.2, x.1) := by
  intro us
  induction us with
  | nil => intro i _; rfl
  | cons u us ih =>
    intro i h
    simp only [List.map_cons, List.length_cons, List.range'_succ, List.cons.injEq] at h
    simp only [List.map_cons, List.zipIdx_cons, List.cons.injEq]
    exact ⟨by rw [← h.1], ih (i + 1) h.2⟩

theorem arr_info {P : Program} {E : Env} (hE : EnvOk P E) {t : TypeId} {n : Nat} {e : Sh} (h : E.arr t = some (n, e)) :
    ∃ et j i cs, P.underlying t = some (.array n et) ∧ E.sh et = some e ∧ e.size = 1 ∧ e.isAgg = false ∧ P.info? et = some j ∧ j.size = 1 ∧ P.info? t = some i ∧ i.zero = some (.agg cs) ∧ cs.size = n := by
  have h := hE.arr t n e h
  unfold arrB at h
  split at h
  · rename_i m et hu
    simp only [Bool.and_eq_true, beq_iff_eq, Bool.not_eq_true'] at h
    obtain ⟨⟨⟨⟨rfl, h2⟩, h3⟩, h4⟩, h5⟩ := h
    split at h5
    · rename_i i hi
      split at h5
      · rename_i cs hz
        obtain ⟨j, z, hj, hjs, _⟩ := tyB_info (hE.sh _ _ h2)
        exact ⟨et, j, i, cs, hu, h2, h3, h4, hj, by rw [hjs, h3], hi, hz, by simpa using h5⟩
      · simp at h5
    · simp at h5
  · simp at h

def PartsV (R : Cx) (st : St) : List (Nat × AV) → List (Nat × Value) → Prop
  | [], [] => True
  | (i, v) :: r, (j, u) :: r' => i = j ∧ (∃ K : Key, K.lv = st.length - 1 ∧ SV R v K u) ∧ PartsV R st r r'
  | _, _ => False

theorem rawParts_ok {C : Orc} {w0 : Base} {w : World} {st : St} {a : Act} {ts : List (Array Value)} {R : Cx} (h : Rel w0 st (a.tmps :: ts) R w) : ∀ {ps : List (Nat × Operand)} {k : List (Nat × AV) → St → Prop},
    (rawParts ps).wp C st k → ∃ vs, k vs st ∧ PartsV R st vs (ps.map fun (i, x) => (i, a.eval x)) := by
  intro ps
  induction ps with
  | nil => intro k hw; exact ⟨[], hw, trivial⟩
  | cons p ps ih =>
    intro k hw
    obtain ⟨i, x⟩ := p
    simp only [rawParts] at hw
    rw [M.wp_bind] at hw
    obtain ⟨v, hk, ⟨K, hK, hv⟩, _⟩ := rawOp_ok h hw
    rw [M.wp_bind] at hk
    obtain ⟨vs, hk, hp⟩ := ih hk
    exact ⟨(i, v) :: vs, hk, rfl, ⟨K, hK, hv⟩, hp⟩

theorem d_one {R : Cx} {e : Sh} {x : e.den} {K : Key} {u : Value} (he : e.isAgg = false) (h : SV R (.d e x) K u) : DR R.Z R.h e x [u] := by
  rw [SV_VV (fun y => by simp), VV_iff (by simp)] at h
  rw [if_neg (by simp [AV.isAgg, he])] at h
  exact h

theorem arrEls_ok {R : Cx} {st : St} {e : Sh} (he : e.isAgg = false) : ∀ {vs : List (Nat × AV)} {us : List (Nat × Value)} {l : List e.den}, PartsV R st vs us → arrEls e vs = some l →
    us.map (·.1) = vs.map (·.1) ∧ l.length = us.length ∧ DR R.Z R.h (arrSh e l.length) (arrD l) (us.map (·.2)) := by
  intro vs
  induction vs with
  | nil =>
    intro us l hp h
    cases us with
    | nil => simp only [arrEls, Option.some.injEq] at h; subst h; exact ⟨rfl, rfl, rfl⟩
    | cons => exact hp.elim
  | cons v vs ih =>
    intro us l hp h
    obtain ⟨i, v⟩ := v
    cases us with
    | nil => exact hp.elim
    | cons u us =>
      obtain ⟨j, u⟩ := u
      obtain ⟨rfl, ⟨K, _, hv⟩, hp⟩ := hp
      unfold arrEls at h
      split at h
      · rename_i e1; simp at e1
      · rename_i i' s x r e1
        simp only [List.cons.injEq, Prod.mk.injEq] at e1
        obtain ⟨⟨rfl, rfl⟩, rfl⟩ := e1
        split at h
        · rename_i hs
          subst hs
          rw [Option.map_eq_some_iff] at h
          obtain ⟨l', hl, rfl⟩ := h
          obtain ⟨h1, h2, h3⟩ := ih hp hl
          refine ⟨by simp [h1], by simp [h2], ?_⟩
          show DR R.Z R.h (.pair s (arrSh s l'.length)) (x, arrD l') (u :: us.map (·.2))
          exact ⟨[u], us.map (·.2), rfl, d_one he hv, h3⟩
        · simp at h
      · simp at h

theorem fill_seq : ∀ (us : List Value) (k : Nat) (cells : Array Value), k + us.length ≤ cells.size → (∀ v ∈ us, v.cells = #[v]) →
    ∃ c, Instr.fill (fun i => some (i, 1)) cells ((us.zipIdx k).map fun x => (x.2, x.1)) = some c ∧ c.toList = cells.toList.take k ++ us ++ cells.toList.drop (k + us.length) := by
  intro us
  induction us with
  | nil => intro k cells h _; exact ⟨cells, rfl, by simp⟩
  | cons v us ih =>
    intro k cells h h1
    have hv := h1 v (by simp)
    rw [List.length_cons] at h
    have hk : k < cells.toList.length := by rw [Array.length_toList]; omega
    obtain ⟨c, hc, hl⟩ := ih (k + 1) (cells.setIfInBounds k v) (by rw [Array.size_setIfInBounds]; omega) (fun u hu => h1 u (by simp [hu]))
    have e1 : (Array.foldl (fun cs x => cs.setIfInBounds (k + x.snd) x.fst) cells #[v].zipIdx) = cells.setIfInBounds k v := by rfl
    refine ⟨c, ?_, ?_⟩
    · simp only [List.zipIdx_cons, List.map_cons, Instr.fill, hv]
      rw [if_neg (by simp; omega)]
      exact hc
    · rw [hl, Array.toList_setIfInBounds, List.length_cons, List.take_set, List.take_succ_eq_append_getElem hk, List.set_append_right _ _ (by rw [List.length_take]; omega)]
      rw [List.length_take, Nat.min_eq_left (Nat.le_of_lt hk), Nat.sub_self, List.set_cons_zero, List.drop_set_of_lt (by omega)]
      rw [show k + 1 + us.length = k + (us.length + 1) by omega]
      simp

theorem OpOk.buildArr {P : Program} {E : Env} (hE : EnvOk P E) {C : Orc} {o : Oper} {t : TypeId} {ps : Array (Nat × Operand)} (ho : o.op = .build t ps) {w0 : Base} {st : St} {a : Act} {ts : List (Array Value)} {R : Cx} {w : World} {k : Unit → St → Prop}
    {next : Act → World → Prop} {Q : Exit → Act → World → Prop} (h : Rel w0 st (a.tmps :: ts) R w) (hw : (buildArr E o t ps.toList).wp C st k)
    (hn : ∀ (a' : Act) (st' : St) (R' : Cx) (w' : World), a'.defers = a.defers → Rel w0 st' (a'.tmps :: ts) R' w' → k () st' → next a' w') : o.wp P a w next Q := by
  unfold Ev.buildArr at hw
  split at hw
  · rename_i n e he
    obtain ⟨et, j, i, cs, u1, u2, u3, u4, u5, u6, u7, u8, u9⟩ := arr_info hE he
    rw [M.wp_bind] at hw
    obtain ⟨vs, hk, hp⟩ := rawParts_ok h hw
    rw [M.wp_bind] at hk
    replace hk := ofOption_ok hk
    obtain ⟨l, hl, hk⟩ := hk
    obtain ⟨h1, h2, h3⟩ := arrEls_ok u4 hp hl
    split at hk
    · rename_i hr
      have hus : (ps.toList.map fun (i, x) => (i, a.eval x)) = (((ps.toList.map fun (i, x) => (i, a.eval x)).map (·.2)).zipIdx 0).map fun x => (x.2, x.1) := by
        refine zip_of_idx' _ 0 ?_
        rw [h1, hr]
        have := congrArg List.length (h1.trans hr)
        simp only [List.length_map, List.length_range] at this ⊢
        rw [this, List.range_eq_range']
      have hlen : ((ps.toList.map fun (i, x) => (i, a.eval x)).map (·.2)).length = n := by
        have := congrArg List.length (h1.trans hr)
        simpa using this
      have hone : ∀ v ∈ (ps.toList.map fun (i, x) => (i, a.eval x)).map (·.2), v.cells = #[v] := fun v hv => cells_one (h3.one v hv)
      obtain ⟨c, hc, hcl⟩ := fill_seq ((ps.toList.map fun (i, x) => (i, a.eval x)).map (·.2)) 0 cs (by rw [hlen, u9]; omega) hone
      have hbuilt : P.built t ((ps.map fun (i, x) => (i, a.eval x)).toList) = some c := by
        unfold Program.built
        rw [u7, u1]
        simp only [u8, u5, u6]
        rw [Array.toList_map]
        rw [← hus] at hc
        rw [show (fun i : Nat => some (i * 1, 1)) = fun i => some (i, 1) by funext i; rw [Nat.mul_one]]
        exact hc
      have hcells : c.toList = (ps.toList.map fun (i, x) => (i, a.eval x)).map (·.2) := by
        rw [hcl, hlen, Nat.zero_add, List.drop_of_length_le (by rw [Array.length_toList, u9]; exact Nat.le_refl _)]
        simp
      have hagg : (arrSh e l.length).isAgg = true := by cases l.length <;> rfl
      have hsv : SV R (.d (arrSh e l.length) (arrD l)) (st.hand 0) (.agg c) := by
        rw [SV_VV (fun y => by simp), VV_iff (by simp), if_pos (by simpa [AV.isAgg] using hagg)]
        exact ⟨_, rfl, by rw [hcells]; exact h3⟩
      refine OpOk.value (j := 0) (v := .agg c) ?_ h hk hsv hn
      simp only [execOp, ho]
      simp only [Sem.run_bind, run_build w t _ c hbuilt, Result.andThen_ok]
      rfl
    · exact hk.elim
  · exact hw.elim

theorem arr_at {Z : Nat → Prop} {hp : Array Obj} {e : Sh} (he : e.size = 1) : ∀ {n : Nat} {y : (arrSh e n).den} {cs : List Value} {i : Nat}, DR Z hp (arrSh e n) y cs → i < n → ∃ u, cs[i]? = some u ∧ DR Z hp e (arrAt e n y i) [u] := by
  intro n
  induction n with
  | zero => intro y cs i _ h; omega
  | succ n ih =>
    intro y cs i h hi
    obtain ⟨c1, c2, rfl, h1, h2⟩ := h
    have hl := DR.length h1
    rw [he] at hl
    obtain ⟨u, rfl⟩ := List.length_eq_one_iff.1 hl
    cases i with
    | zero => exact ⟨u, rfl, h1⟩
    | succ i =>
      obtain ⟨v, e1, e2⟩ := ih h2 (show i < n by omega)
      exact ⟨v, by simpa using e1, e2⟩

theorem OpOk.index {P : Program} {E : Env} (hE : EnvOk P E) {C : Orc} {o : Oper} {t : TypeId} {x y : Operand} (ho : o.op = .index t x y) : OpOk P E C o := by
  intro w0 st a ts R w k next Q h hw hn
  simp only [evOp, ho, M.wp_bind] at hw
  obtain ⟨v, hk, ⟨K, hK, hv⟩, hq1, hq2⟩ := rawOp_ok h hw
  replace hk := rawOp_ok h hk
  obtain ⟨u, hk, ⟨K', hK', hu⟩, hq3, hq4⟩ := hk
  split at hk
  · rename_i s kk n
    replace hk : (if E.sh t = some .str then M.grd (0 ≤ (n : Int) ∧ (n : Int) < ((ByteArray.size s : Nat) : Int)) (dstT o (.d (.int .u8) (((s[Int.toNat n]?).getD 0).toNat : Int))) else M.fail).wp C st k := hk
    by_cases ht : E.sh t = some .str
    · rw [if_pos ht] at hk
      obtain ⟨⟨n0, n1⟩, hk⟩ := hk
      have e1 := SV_str hv
      have e2 := SV_int hu
      have hu := (tyB_scalar (hE.sh _ _ ht)).2.1 rfl
      have hlt : Int.toNat n < ByteArray.size s := toNat_lt' n0 n1
      have hget : s[n.toNat]? = some s[n.toNat] := by simp [hlt]
      refine OpOk.value (j := 0) (v := .int .u8 s[n.toNat].toNat) ?_ h hk ?_ hn
      · simp only [execOp, ho, e1, e2]
        simp [Instr.index, asIntOf, run_underlying hu, n0, hget]
      · rw [hget]; rfl
    · rw [if_neg ht] at hk; exact hk.elim
  · rename_i s y' kk n _
    unfold indexArr at hk
    split at hk
    · rename_i m e he
      split at hk
      · rename_i hs
        subst hs
        obtain ⟨⟨n0, n1⟩, hk⟩ := hk
        obtain ⟨et, j, i, cs, u1, u2, u3, u4, u5, u6, u7, u8, u9⟩ := arr_info hE he
        have hagg : (arrSh e m).isAgg = true := by cases m <;> rfl
        rw [SV_VV (fun y => by simp), VV_iff (by simp), if_pos (by simpa [AV.isAgg] using hagg)] at hv
        obtain ⟨arr, e1, hd⟩ := hv
        have e2 := SV_int hu
        have hlt : Int.toNat n < m := toNat_lt' n0 n1
        obtain ⟨u, hu1, hu2⟩ := arr_at u3 (show DR R.Z R.h (arrSh e m) y' arr.toList from hd) hlt
        obtain ⟨dt, hdt, hrow⟩ := tyB_agg (hE.sh _ _ u2)
        have hrun := run_agg (P := P) hdt (hrow.trans u4) w
        have hsz := run_size (P := P) u5 w
        refine OpOk.value (j := 0) (v := u) ?_ h hk ?_ hn
        · have ha : arr[n.toNat]? = some u := by simpa using hu1
          simp only [execOp, ho, e1, e2]
          simp [Instr.index, asIntOf, run_underlying u1, n0, n1, hsz, u6, part, hrun, ha]
        · rw [SV_VV (fun y => by simp), VV_iff (by simp), if_neg (by simp [AV.isAgg, u4])]
          exact hu2
      · exact hk.elim
    · exact hk.elim
  · exact hk.elim

end Go.Proofs.Ytlndfmmigndgeaa.Ev

/- Stores. -/
namespace Go.Proofs.Ytlndfmmigndgeaa.Ev
open Go
set_option linter.unusedSimpArgs false
set_option linter.unusedVariables false

/-- Cells with others put in. -/
def repl (cs : List Value) (off : Nat) (c : List Value) : List Value := cs.take off ++ c ++ cs.drop (off + c.length)

theorem repl_length {cs c : List Value} {off : Nat} (h : off + c.length ≤ cs.length) : (repl cs off c).length = cs.length := by
  simp only [repl, List.length_append, List.length_take, List.length_drop]; omega

theorem repl_left {c1 c2 c : List Value} {off : Nat} (h : off + c.length ≤ c1.length) : repl (c1 ++ c2) off c = repl c1 off c ++ c2 := by
  simp only [repl, List.append_assoc]
  rw [List.take_append_of_le_length (by omega), List.drop_append_of_le_length h]

theorem repl_right {c1 c2 c : List Value} {off : Nat} : repl (c1 ++ c2) (c1.length + off) c = c1 ++ repl c2 off c := by
  simp only [repl]
  rw [List.take_append, List.drop_append]
  simp only [Nat.add_sub_cancel_left]
  rw [List.take_of_length_le (by omega), List.drop_eq_nil_of_le (by omega)]
  have : c1.length + off + c.length - c1.length = off + c.length := by omega
  rw [this]; simp

theorem repl_mid {arr c r c' : List Value} {m off : Nat} (hd : arr.drop m = c ++ r) (hm : m ≤ arr.length) (hb : off + c'.length ≤ c.length) : repl arr (m + off) c' = repl arr m (repl c off c') := by
  have e : arr = arr.take m ++ (c ++ r) := by rw [← hd, List.take_append_drop]
  have hl : (arr.take m).length = m := by simp only [List.length_take]; omega
  generalize arr.take m = pre at e hl
  subst e
  subst hl
  rw [repl_right, repl_left hb]
  have hX := repl_length hb
  generalize repl c off c' = X at hX ⊢
  have := repl_right (c1 := pre) (c2 := c ++ r) (c := X) (off := 0)
  simp only [Nat.add_zero] at this
  rw [this]
  have : repl (c ++ r) 0 X = X ++ r := by simp [repl, hX]
  rw [this]

/-- One place in memory is written; the keys in D are told anew. -/
structure Wr (R R' : Cx) (A B : Key) (c' : List Value) (D : Key → Prop) : Prop where
  hz : ∀ b, R.Z b → R'.Z b
  blk : ∃ b n arr el, R.ρ A.node = some (.blk b n) ∧ R.h[b]? = some (.cells arr el (0, 0)) ∧ R'.h[b]? = some (.cells (repl arr.toList (offOf A.p) c').toArray el (0, 0)) ∧ offOf A.p + c'.length ≤ arr.size
  oth : ∀ (b' : Nat) (o : Obj), (∀ n, R.ρ A.node ≠ some (.blk b' n)) → R.h[b']? = some o → R'.h[b']? = some o
  own : ∀ T, ¬ D T → R'.ρ T = R.ρ T
  dd : ∀ T, D T → T.under A ∨ T.under B
  fl : ∀ lv s bx, R.fl lv s bx = true → R'.fl lv s bx = true
  zd : ∀ b, R.Z b → ∀ K n, R.ρ K ≠ some (.blk b n)
  inj : R.Inj

theorem Wr.ok {R R' : Cx} {A B K : Key} {c' : List Value} {D : Key → Prop} (h : Wr R R' A B c' D) {x : AV} (h1 : ∀ T, T.under K → ¬ D T) (h2 : ¬ A.node.under K) (h3 : ∀ T, x.hits K T → R.fl T.lv T.s T.bx = true → ¬ D T) : R.Ok R' K x := by
  obtain ⟨b, n, arr, el, e1, e2, e3, e4⟩ := h.blk
  have e4 : offOf A.p + c'.length ≤ arr.toList.length := by simpa using e4
  refine ⟨⟨h.hz, fun b' o hb => h.oth b' o (fun n => h.zd b' hb _ n), fun T hT => h.own T (h1 T hT), ?_⟩, ?_⟩
  · intro T b' m o hT hr ho
    refine h.oth b' o ?_ ho
    intro n' e
    exact h2 (h.inj _ _ _ _ _ e hr ▸ hT)
  · intro T hT e
    refine ⟨h.fl _ _ _ e, .inr ⟨h.own T (h3 T hT e), ?_⟩⟩
    intro b' n' arr' el' hr ho
    by_cases hc : b' = b
    · subst hc
      rw [e2] at ho
      cases ho
      exact ⟨_, e3, by simpa using repl_length e4⟩
    · refine ⟨arr', h.oth b' _ ?_ ho, rfl⟩
      intro n'' e; rw [e1] at e; simp only [Option.some.injEq, Nd.blk.injEq] at e; exact hc e.1.symm

theorem Key.ext_cons (K : Key) (i : Stp) (p : List Stp) : K.ext (i :: p) = (K.child i).ext p := by simp [Key.ext, Key.child]
theorem Key.ext_under (K : Key) (p : List Stp) : (K.ext p).under K := ⟨rfl, rfl, rfl, List.suffix_append _ _⟩

theorem Key.child_apart {K : Key} {i j : Stp} (h : i ≠ j) : (K.child i).apart (K.child j) := by
  intro T h1 h2
  have a := h1.2.2.2
  have b := h2.2.2.2
  simp only [Key.child] at a b
  have := List.suffix_of_suffix_length_le a b (by simp)
  have e := this.eq_of_length (by simp)
  simp only [List.cons.injEq] at e
  exact h e.1

theorem nodeOf_suffix : ∀ p : List Stp, nodeOf p <:+ p := by
  intro p
  induction p with
  | nil => exact List.suffix_refl _
  | cons i p ih =>
    cases i with
    | ix i z => exact List.suffix_cons _ _
    | l => exact ih.trans (List.suffix_cons _ _)
    | r n => exact ih.trans (List.suffix_cons _ _)

theorem nodeOf_lt : ∀ {p : List Stp}, p ≠ [] → (nodeOf p).length < p.length := by
  intro p hp
  cases p with
  | nil => exact absurd rfl hp
  | cons i p =>
    cases i with
    | ix i z => simp [nodeOf]
    | l => have := (nodeOf_suffix p).length_le; simp [nodeOf]; omega
    | r n => have := (nodeOf_suffix p).length_le; simp [nodeOf]; omega

theorem Key.under_of_node {K A : Key} (h : A.node.under K) : A.under K := ⟨h.1, h.2.1, h.2.2.1, h.2.2.2.trans (nodeOf_suffix _)⟩

/-- A path with an element step leads into a node below. -/
theorem nodeOf_notflat : ∀ {p q : List Stp}, flat p = false → q.length ≤ (nodeOf (p ++ q)).length := by
  intro p
  induction p with
  | nil => intro q h; simp [flat] at h
  | cons i p ih =>
    intro q h
    cases i with
    | ix i z => simp [nodeOf]
    | l => exact ih (by simpa [flat, Stp.isIx] using h)
    | r n => exact ih (by simpa [flat, Stp.isIx] using h)

theorem unpack_hits : ∀ (s : Sh) (o : Ow) (x : s.den) (K T : Key), ¬ (unpack s o x).hits K T := by
  intro s
  induction s with
  | pair a b iha ihb =>
    intro o x K T h
    cases o with
    | pr o1 o2 => rcases h with h | h; exact iha _ _ _ _ h; exact ihb _ _ _ _ h
    | fz => exact h
    | ow o => exact h
  | sl e ih => intro o x K T h; cases o <;> exact h
  | _ => intro o x K T h; cases o <;> exact h

theorem segI_set {α : Type} {Q Q' : Nat → α → List Value → Prop} {z : Nat} (d : α) (hz : ∀ i x c, Q i x c → c.length = z) : ∀ (l : List α) (i0 i : Nat) (cs : List Value), SegI Q i0 l cs → i < l.length →
    (∀ j x c, j ≠ i0 + i → Q j x c → Q' j x c) → ∀ (x' : α) (c1 : List Value), (∀ c r, cs.drop (i * z) = c ++ r → Q (i0 + i) (l.getD i d) c → Q' (i0 + i) x' c1) → c1.length = z → SegI Q' i0 (l.set i x') (repl cs (i * z) c1) := by
  intro l
  induction l with
  | nil => intro i0 i cs _ hi; simp at hi
  | cons x xs ih =>
    intro i0 i cs h hi hoth x' c1 hx hc1
    obtain ⟨c, r, rfl, hq, hs⟩ := h
    have hlc := hz _ _ _ hq
    cases i with
    | zero =>
      refine ⟨c1, r, ?_, hx c r (by simp) (by simpa using hq), ?_⟩
      · simp [repl, hc1, ← hlc]
      · have all : ∀ (l : List α) (j : Nat) (cs : List Value), i0 < j → SegI Q j l cs → SegI Q' j l cs := by
          intro l
          induction l with
          | nil => intro _ _ _ _; trivial
          | cons y ys ihy =>
            intro j cs hj hs
            obtain ⟨c, r, rfl, h1, h2⟩ := hs
            exact ⟨c, r, rfl, hoth _ _ _ (by omega) h1, ihy _ _ (by omega) h2⟩
        exact all xs (i0 + 1) r (by omega) hs
    | succ i =>
      have e : (i + 1) * z = c.length + i * z := by rw [Nat.succ_mul, hlc]; omega
      refine ⟨c, repl r (i * z) c1, ?_, hoth _ _ _ (by omega) hq, ?_⟩
      · rw [e, repl_right]
      · refine ih (i0 + 1) i r hs (by simpa using hi) (fun j x c hj => hoth j x c (by omega)) x' c1 ?_ hc1
        intro c' r' h1 h2
        have := hx c' r' (by rw [e, List.drop_append]; simp only [Nat.add_sub_cancel_left]; rw [List.drop_eq_nil_of_le (by omega), List.nil_append]; exact h1)
          (by have : i0 + (i + 1) = i0 + 1 + i := by omega
              rw [this]; simpa using h2)
        have e2 : i0 + 1 + i = i0 + (i + 1) := by omega
        rw [e2]; exact this

theorem repl_get {cs c1 : List Value} {off k : Nat} (h : off + c1.length ≤ cs.length) : (repl cs off c1)[k]? = if off ≤ k ∧ k < off + c1.length then c1[k - off]? else cs[k]? := by
  simp only [repl, List.append_assoc]
  have ht : (cs.take off).length = off := by simp only [List.length_take]; omega
  by_cases h1 : k < off
  · rw [List.getElem?_append_left (by omega), if_neg (by omega), List.getElem?_take_of_lt h1]
  · rw [List.getElem?_append_right (by omega), ht]
    by_cases h2 : k - off < c1.length
    · rw [List.getElem?_append_left h2, if_pos (by omega)]
    · rw [List.getElem?_append_right (by omega), if_neg (by omega), List.getElem?_drop]
      congr 1; omega

theorem seg_self {cs c1 : List Value} {off : Nat} (h : off ≤ cs.length) : (repl cs off c1).drop off = c1 ++ cs.drop (off + c1.length) := by
  simp only [repl, List.append_assoc]
  rw [List.drop_append_of_le_length (by simp only [List.length_take]; omega)]
  rw [List.drop_eq_nil_of_le (by simp only [List.length_take]; omega), List.nil_append]

theorem seg_other {cs c1 c r : List Value} {i j z : Nat} (hz : c1.length = z) (hle : i * z + z ≤ cs.length) (hne : j ≠ i) (hd : cs.drop (j * z) = c ++ r) (hc : c.length = z) : ∃ r', (repl cs (i * z) c1).drop (j * z) = c ++ r' := by
  refine ⟨((repl cs (i * z) c1).drop (j * z)).drop z, ?_⟩
  have e : c = ((repl cs (i * z) c1).drop (j * z)).take z := by
    apply List.ext_getElem?
    intro k
    by_cases hk : k < z
    · rw [List.getElem?_take_of_lt hk, List.getElem?_drop, repl_get (by omega)]
      have : ¬ (i * z ≤ j * z + k ∧ j * z + k < i * z + c1.length) := by
        rw [hz]
        rintro ⟨h1, h2⟩
        rcases Nat.lt_or_gt_of_ne hne with h | h
        · have : (j + 1) * z ≤ i * z := Nat.mul_le_mul_right _ h
          rw [Nat.succ_mul] at this; omega
        · have : (i + 1) * z ≤ j * z := Nat.mul_le_mul_right _ h
          rw [Nat.succ_mul] at this; omega
      rw [if_neg this, ← List.getElem?_drop, hd, List.getElem?_append_left (by omega)]
    · rw [List.getElem?_eq_none (by omega), List.getElem?_eq_none (by simp only [List.length_take]; omega)]
  rw [e, List.take_append_drop]

/-- Cells at every place make a row of them. -/
theorem segI_of {α : Type} {Q : Nat → α → List Value → Prop} {z : Nat} (d : α) : ∀ (l : List α) (i0 : Nat) (cs : List Value), (∀ j, j < l.length → ∃ c r, cs.drop (j * z) = c ++ r ∧ c.length = z ∧ Q (i0 + j) (l.getD j d) c) → SegI Q i0 l cs := by
  intro l
  induction l with
  | nil => intro i0 cs _; trivial
  | cons x xs ih =>
    intro i0 cs h
    obtain ⟨c, r, h1, h2, h3⟩ := h 0 (by simp)
    rw [Nat.zero_mul, List.drop_zero] at h1
    subst h1
    refine ⟨c, r, rfl, by simpa using h3, ih (i0 + 1) r fun j hj => ?_⟩
    obtain ⟨c', r', g1, g2, g3⟩ := h (j + 1) (by simpa using hj)
    refine ⟨c', r', ?_, g2, ?_⟩
    · rw [← g1, Nat.succ_mul]
      have : j * z + z = c.length + j * z := by omega
      have e1 : List.drop (c.length + j * z) c = [] := List.drop_eq_nil_of_le (by omega)
      rw [this, List.drop_append, e1, List.nil_append]
      congr 1; omega
    · have : i0 + 1 + j = i0 + (j + 1) := by omega
      rw [this]; simpa using g3

theorem castDen_OR {R : Cx} {s e : Sh} (h : s = e) {o : Ow} {K : Key} {x : s.den} {c : List Value} : OR R s o K x c → OR R e o K (castDen h x) c := by
  subst h; exact id

/-- An element put back: the slice is whole, or has a hole. -/
theorem putElem_VR {C : Orc} {R : Cx} {e : Sh} {o : Ow} {l : List e.den} {i : Nat} {u : AV} {K : Key} {st : St} {k : AV → St → Prop} (hw : (putElem e o l i u).wp C st k) (us : u.size = e.size) (hi : i < l.length)
    {b cap : Nat} {arr : Array Value} {el : TypeId} (hρ : R.ρ K = some (.blk b l.length)) (hl : l.length ≤ cap) (hcap : cap * e.size ≤ arr.size) (hh : R.h[b]? = some (.cells arr el (0, 0)))
    (hoth : ∀ j, j < l.length → j ≠ i → ∃ c r, arr.toList.drop (j * e.size) = c ++ r ∧ OR R e o (K.child (.ix j e.size)) (l.getD j e.dflt) c) (hu : ∃ c r, arr.toList.drop (i * e.size) = c ++ r ∧ VR R u (K.child (.ix i e.size)) c) :
    ∃ x, k x st ∧ x.size = 1 ∧ x.isAgg = false ∧ x.isBad = false ∧ VR R x K [.slice (some ⟨b, 0, none⟩) l.length cap] := by
  have hol : (M.br u.solid (.pure (.hol e o l i u)) .fail : M AV).wp C st k → ∃ x, k x st ∧ x.size = 1 ∧ x.isAgg = false ∧ x.isBad = false ∧ VR R x K [.slice (some ⟨b, 0, none⟩) l.length cap] := by
    intro hw
    have hw : cond u.solid (k (.hol e o l i u) st) False := hw
    cases hs : u.solid with
    | false => rw [hs] at hw; exact hw.elim
    | true =>
      rw [hs] at hw
      exact ⟨_, hw, rfl, rfl, rfl, hs, us, hi, b, cap, arr, el, hρ, rfl, hl, hcap, hh, hoth, hu⟩
  simp only [putElem] at hw
  split at hw
  · rename_i w hw'
    split at hw
    · rename_i hwe
      obtain ⟨hws, hwo⟩ := hwe
      obtain ⟨c, r, hd, hu⟩ := hu
      have hu := (pack_VR u w hw' _ _).1 hu
      rw [hwo] at hu
      have hu := castDen_OR hws hu
      refine ⟨_, hw, rfl, rfl, rfl, ?_⟩
      simp only [VR, OR]
      refine .inr ⟨b, cap, arr, el, by rw [hρ, List.length_set], by rw [List.length_set], by rw [List.length_set]; exact hl, hcap, hh, ?_⟩
      refine segI_of (z := e.size) e.dflt _ 0 _ fun j hj => ?_
      rw [List.length_set] at hj
      rw [Nat.zero_add]
      by_cases hji : j = i
      · subst hji
        refine ⟨c, r, hd, OR.length hu, ?_⟩
        rw [List.getD_eq_getElem?_getD, List.getElem?_set_self hi]
        exact hu
      · obtain ⟨c', r', g1, g2⟩ := hoth j hj hji
        refine ⟨c', r', g1, OR.length g2, ?_⟩
        rw [List.getD_eq_getElem?_getD, List.getElem?_set_ne (fun e => hji e.symm), ← List.getD_eq_getElem?_getD]
        exact g2
    · exact hol hw
  · exact hol hw

/-- What stands behind a write. -/
theorem upd_VR {C : Orc} {R R' : Cx} {A B : Key} {c' : List Value} {D : Key → Prop} (h : Wr R R' A B c' D) {v : AV} (hv : VR R' v A c') (hA : A.p ≠ []) : ∀ (path : List Stp) {a : AV} {K : Key} {cs : List Value} {st : St} {k : AV → St → Prop},
    (AV.upd v path a).wp C st k → A = K.ext path → K.apart B → VR R a K cs → (flat path = true → AtR R K cs) → (∀ T, a.hits K T → R.fl T.lv T.s T.bx = true → ¬ D T) →
    ∃ u, k u st ∧ u.size = a.size ∧ (path ≠ [] → u.isAgg = a.isAgg ∧ u.isBad = false) ∧ (flat path = true → pathOff path + c'.length ≤ cs.length) ∧ VR R' u K (if flat path = true then repl cs (pathOff path) c' else cs) := by
  have elemWr : ∀ {e : Sh} {o : Ow} {l : List e.den} {i : Nat} {p : List Stp} {K : Key} {c r : List Value} {bk cap : Nat} {arr : Array Value} {el : TypeId} {u : AV} {st : St} {k : AV → St → Prop},
      A = K.ext (.ix i e.size :: p) → K.apart B → i < l.length → c.length = e.size → arr.toList.drop (i * e.size) = c ++ r → R.ρ K = some (.blk bk l.length) → l.length ≤ cap → cap * e.size ≤ arr.size → R.h[bk]? = some (.cells arr el (0, 0)) →
      (∀ j, j < l.length → j ≠ i → ∃ c r, arr.toList.drop (j * e.size) = c ++ r ∧ OR R e o (K.child (.ix j e.size)) (l.getD j e.dflt) c) → u.size = e.size → (flat p = true → pathOff p + c'.length ≤ c.length) →
      VR R' u (K.child (.ix i e.size)) (if flat p = true then repl c (pathOff p) c' else c) → (putElem e o l i u).wp C st k →
      ∃ x, k x st ∧ x.size = 1 ∧ x.isAgg = false ∧ x.isBad = false ∧ VR R' x K [.slice (some ⟨bk, 0, none⟩) l.length cap] := by
    intro e o l i p K c r bk cap arr el u st k hK hB hi hlc hd hρ hl hcap hhp hoth us ub hu hk
    have hK' : A = (K.child (.ix i e.size)).ext p := by rw [hK, Key.ext_cons]
    have hAu : A.under (K.child (.ix i e.size)) := hK' ▸ Key.ext_under _ _
    have hKD : ¬ D K := by
      intro hD
      rcases h.dd K hD with hD | hD
      · have := hD.2.2.2.length_le
        rw [hK] at this
        simp [Key.ext] at this
        omega
      · exact hB K (Key.under_refl _) hD
    have hothr : ∀ (j : Nat) (x : e.den) (cc : List Value), j ≠ i → OR R e o (K.child (.ix j e.size)) x cc → OR R' e o (K.child (.ix j e.size)) x cc := by
      intro j x cc hj hx
      have hne : (Stp.ix j e.size) ≠ .ix i e.size := by simp; omega
      have hap : (K.child (.ix j e.size)).apart A := fun T h1 h2 => Key.child_apart hne T h1 (Key.under_trans h2 hAu)
      refine OR.frame (h.ok (x := .unit) ?_ ?_ (fun T hT => hT.elim)).1 hx
      · intro T hT hD
        rcases h.dd T hD with hD | hD
        · exact hap T hT hD
        · exact Key.apart_sub hB (Key.child_under _ _) T hT hD
      · intro hn; exact hap A (Key.under_of_node hn) (Key.under_refl _)
    obtain ⟨b, n, arr0, el0, e1, e2, e3, e4⟩ := h.blk
    have hrow : i * e.size + e.size ≤ arr.toList.length := by
      have : (i + 1) * e.size ≤ cap * e.size := Nat.mul_le_mul_right _ (by omega)
      rw [Nat.succ_mul] at this
      simp only [Array.length_toList]; omega
    by_cases hfp : flat p = true
    · have hnode : A.node = K := by
        rw [hK]; simp only [Key.node, Key.ext, List.reverse_cons, List.append_assoc, List.singleton_append]
        rw [nodeOf_flat (flat_reverse hfp)]; rfl
      have hoff : offOf A.p = i * e.size + pathOff p := by
        rw [hK]; simp only [Key.ext, List.reverse_cons, List.append_assoc, List.singleton_append]
        rw [offOf_flat (flat_reverse hfp), pathOff_reverse hfp]; simp [offOf]; omega
      rw [hnode, hρ] at e1
      simp only [Option.some.injEq, Nd.blk.injEq] at e1
      obtain ⟨rfl, rfl⟩ := e1
      rw [hhp] at e2
      cases e2
      rw [if_pos hfp] at hu
      have hub := ub hfp
      have hc1 : (repl c (pathOff p) c').length = e.size := by rw [repl_length hub, hlc]
      have e4' : offOf A.p + c'.length ≤ arr.toList.length := by simpa using e4
      have hrepl : repl arr.toList (offOf A.p) c' = repl arr.toList (i * e.size) (repl c (pathOff p) c') := by
        rw [hoff]; exact repl_mid hd (by omega) hub
      refine putElem_VR (b := bk) (cap := cap) (arr := (repl arr.toList (offOf A.p) c').toArray) (el := el) hk us hi (by rw [h.own K hKD, hρ]) hl ?_ e3 ?_ ?_
      · simp only [List.size_toArray, repl_length e4']; simpa using hcap
      · intro j hj hji
        obtain ⟨cj, rj, g1, g2⟩ := hoth j hj hji
        obtain ⟨r', g3⟩ := seg_other hc1 hrow hji g1 (OR.length g2)
        exact ⟨cj, r', by simp only [List.toList_toArray, hrepl]; exact g3, hothr j _ _ hji g2⟩
      · refine ⟨_, _, by simp only [List.toList_toArray, hrepl]; exact seg_self (by omega), hu⟩
    · have hne : A.node ≠ K := by
        intro eqn
        have hlt : K.p.length < A.node.p.length := by
          rw [hK]
          simp only [Key.node, Key.ext, List.reverse_cons, List.append_assoc, List.singleton_append]
          have hfr : flat p.reverse = false := by simpa [flat] using hfp
          have := nodeOf_notflat (q := Stp.ix i e.size :: K.p) hfr
          simp at this
          omega
        rw [eqn] at hlt; omega
      rw [if_neg hfp] at hu
      have hbk : R'.h[bk]? = some (.cells arr el (0, 0)) := by
        refine h.oth bk _ ?_ hhp
        intro n' e'
        exact hne (h.inj _ _ _ _ _ e' hρ)
      refine putElem_VR (b := bk) (cap := cap) (arr := arr) (el := el) hk us hi (by rw [h.own K hKD, hρ]) hl hcap hbk ?_ ⟨c, r, hd, hu⟩
      intro j hj hji
      obtain ⟨cj, rj, g1, g2⟩ := hoth j hj hji
      exact ⟨cj, rj, g1, hothr j _ _ hji g2⟩
  intro path
  induction path with
  | nil =>
    intro a K cs st k hw hK hB ha hat hh
    simp only [AV.upd] at hw
    split at hw
    · rename_i hs
      have e1 := VR.length ha
      have e2 := VR.length hv
      have : K = A := by rw [hK]; simp [Key.ext]
      subst this
      refine ⟨v, hw, hs, (fun e => absurd rfl e), (fun _ => by simp [pathOff]; omega), ?_⟩
      have : repl cs 0 c' = c' := by simp [repl]; omega
      simp only [flat, List.all_nil, if_true, pathOff, this]
      exact hv
    · exact hw.elim
  | cons i p ih =>
    intro a K cs st k hw hK hB ha hat hh
    have hK' : A = (K.child i).ext p := by rw [hK, Key.ext_cons]
    have hAu : A.under (K.child i) := hK' ▸ Key.ext_under _ _
    have hBc : ∀ j, (K.child j).apart B := fun j => Key.apart_sub hB (Key.child_under _ _)
    have other : ∀ j, j ≠ i → ∀ x : AV, (∀ T, x.hits K T → R.fl T.lv T.s T.bx = true → ¬ D T) → R.Ok R' (K.child j) x := by
      intro j hj x hx
      have hap : (K.child j).apart A := fun T h1 h2 => Key.child_apart hj T h1 (Key.under_trans h2 hAu)
      refine h.ok ?_ ?_ (fun T hT => hx T ((AV.hits_lv (K := K.child j) (K' := K) rfl).1 hT))
      · intro T hT hD
        rcases h.dd T hD with hD | hD
        · exact hap T hT hD
        · exact hBc j T hT hD
      · intro hn; exact hap A (Key.under_of_node hn) (Key.under_refl _)
    cases a with
    | pair x y =>
      obtain ⟨c1, c2, rfl, h1, h2⟩ := ha
      cases i with
      | l =>
        simp only [AV.upd, M.wp_bind] at hw
        obtain ⟨u, hk, us, _, ub, hu⟩ := ih hw hK' (hBc _) h1 (fun e => (hat (by simpa [flat, Stp.isIx] using e)).left) (fun T hT => hh T (.inl ((AV.hits_lv (K := K.child .l) (K' := K) rfl).1 hT)))
        have hf : flat (.l :: p) = flat p := by simp [flat, Stp.isIx]
        obtain ⟨q1, q2⟩ := other (.r x.size) (by simp) y (fun T hT => hh T (.inr hT))
        have hy : VR R' y (K.child (.r u.size)) c2 := by rw [us]; exact VR.frame (AV.le_refl _) q1 q2 h2
        refine ⟨_, hk, by simp only [AV.size, us], fun _ => ⟨rfl, rfl⟩, ?_, ?_⟩
        · intro e; have := ub (hf ▸ e); simp only [pathOff, List.length_append]; omega
        · rw [hf]
          by_cases e : flat p = true
          · rw [if_pos e] at hu ⊢
            exact ⟨_, _, by rw [pathOff, repl_left (ub e)], hu, hy⟩
          · rw [if_neg e] at hu ⊢
            exact ⟨_, _, rfl, hu, hy⟩
      | r n =>
        simp only [AV.upd] at hw
        split at hw
        · rename_i hn
          subst hn
          rw [M.wp_bind] at hw
          obtain ⟨u, hk, us, _, ub, hu⟩ := ih hw hK' (hBc _) h2 (fun e => (hat (by simpa [flat, Stp.isIx] using e)).right (VR.length h1)) (fun T hT => hh T (.inr ((AV.hits_lv (K := K.child (.r x.size)) (K' := K) rfl).1 hT)))
          have hf : flat (.r x.size :: p) = flat p := by simp [flat, Stp.isIx]
          obtain ⟨q1, q2⟩ := other .l (by simp) x (fun T hT => hh T (.inl hT))
          have hx : VR R' x (K.child .l) c1 := VR.frame (AV.le_refl _) q1 q2 h1
          have hl := VR.length h1
          refine ⟨_, hk, by simp only [AV.size, us], fun _ => ⟨rfl, rfl⟩, ?_, ?_⟩
          · intro e; have := ub (hf ▸ e); simp only [pathOff, List.length_append]; omega
          · rw [hf]
            by_cases e : flat p = true
            · rw [if_pos e] at hu ⊢
              exact ⟨_, _, by rw [pathOff, ← hl, repl_right], hx, hu⟩
            · rw [if_neg e] at hu ⊢
              exact ⟨_, _, rfl, hx, hu⟩
        · exact hw.elim
      | ix i z => exact hw.elim
    | d s x =>
      cases s with
      | pair s t =>
        obtain ⟨c1, c2, rfl, h1, h2⟩ := ha
        cases i with
        | l =>
          simp only [AV.upd, M.wp_bind] at hw
          obtain ⟨u, hk, us, _, ub, hu⟩ := ih (a := .d s x.1) hw hK' (hBc _) h1 (fun e => (hat (by simpa [flat, Stp.isIx] using e)).left) (fun T hT => hT.elim)
          have hf : flat (.l :: p) = flat p := by simp [flat, Stp.isIx]
          obtain ⟨q1, q2⟩ := other (.r s.size) (by simp) (.d t x.2) (fun T hT => hT.elim)
          have hy : VR R' (.d t x.2) (K.child (.r u.size)) c2 := VR.frame (K := K.child (.r s.size)) (R := R) (AV.le_refl _) q1 q2 h2
          refine ⟨_, hk, by simp only [AV.size, us, Sh.size], fun _ => ⟨rfl, rfl⟩, ?_, ?_⟩
          · intro e; have := ub (hf ▸ e); simp only [pathOff, List.length_append]; omega
          · rw [hf]
            by_cases e : flat p = true
            · rw [if_pos e] at hu ⊢
              exact ⟨_, _, by rw [pathOff, repl_left (ub e)], hu, hy⟩
            · rw [if_neg e] at hu ⊢
              exact ⟨_, _, rfl, hu, hy⟩
        | r n =>
          simp only [AV.upd] at hw
          split at hw
          · rename_i hn
            subst hn
            rw [M.wp_bind] at hw
            obtain ⟨u, hk, us, _, ub, hu⟩ := ih (a := .d t x.2) hw hK' (hBc _) h2 (fun e => (hat (by simpa [flat, Stp.isIx] using e)).right (DR.length h1)) (fun T hT => hT.elim)
            have hf : flat (.r s.size :: p) = flat p := by simp [flat, Stp.isIx]
            obtain ⟨q1, q2⟩ := other .l (by simp) (.d s x.1) (fun T hT => hT.elim)
            have hx : VR R' (.d s x.1) (K.child .l) c1 := VR.frame (R := R) (AV.le_refl _) q1 q2 h1
            have hl := DR.length h1
            refine ⟨_, hk, by simp only [AV.size, us, Sh.size], fun _ => ⟨rfl, rfl⟩, ?_, ?_⟩
            · intro e; have := ub (hf ▸ e); simp only [pathOff, List.length_append]; omega
            · rw [hf]
              by_cases e : flat p = true
              · rw [if_pos e] at hu ⊢
                exact ⟨_, _, by rw [pathOff, ← hl, repl_right], hx, hu⟩
              · rw [if_neg e] at hu ⊢
                exact ⟨_, _, rfl, hx, hu⟩
          · exact hw.elim
        | ix i z => exact hw.elim
      | _ => cases i <;> exact hw.elim
    | own e o l =>
      cases i with
      | ix i z =>
        simp only [AV.upd] at hw
        split at hw
        · rename_i hz
          subst hz
          obtain ⟨hi, hw⟩ := hw
          rw [M.wp_bind] at hw
          simp only [VR, OR] at ha
          rcases ha with ⟨_, rfl, _⟩ | ⟨bk, cap, arr, el, hρ, rfl, hl, hcap, hhp, hs⟩
          · simp at hi
          obtain ⟨c, r, hd, hc⟩ := SegI.get e.dflt (fun _ _ _ => OR.length) l 0 _ hs i hi
          rw [Nat.zero_add] at hc
          have hat' : AtR R (K.child (.ix i e.size)) c := ⟨bk, arr, el, l.length, r, hρ, hhp, by simpa [Key.child, offOf] using hd⟩
          obtain ⟨u, hk, us, _, ub, hu⟩ := ih hw hK' (hBc _) ((unpack_VR _ _ _ _ _).2 hc) (fun _ => hat') (fun T hT => absurd hT (unpack_hits _ _ _ _ _))
          rw [unpack_size] at us
          have pt : ∀ j, j < l.length → ∃ c r, arr.toList.drop (j * e.size) = c ++ r ∧ OR R e o (K.child (.ix j e.size)) (l.getD j e.dflt) c := by
            intro j hj
            obtain ⟨c, r, h1, h2⟩ := SegI.get e.dflt (fun _ _ _ => OR.length) l 0 _ hs j hj
            rw [Nat.zero_add] at h2
            exact ⟨c, r, h1, h2⟩
          have := elemWr hK hB hi (OR.length hc) hd hρ hl hcap hhp (fun j hj _ => pt j hj) us ub hu hk
          obtain ⟨x, hx, q1, q2, q3, q4⟩ := this
          have hf : flat (.ix i e.size :: p) = false := by simp [flat, Stp.isIx]
          refine ⟨x, hx, q1, fun _ => ⟨q2, q3⟩, (fun e => by rw [hf] at e; simp at e), ?_⟩
          rw [hf]
          exact q4
        · exact hw.elim
      | l => exact hw.elim
      | r n => exact hw.elim
    | hol e o l j b0 =>
      cases i with
      | ix i z =>
        simp only [AV.upd] at hw
        split at hw
        · rename_i hz
          subst hz
          obtain ⟨rfl, hw⟩ := hw
          rw [M.wp_bind] at hw
          obtain ⟨b1, b2, hi, bk, cap, arr, el, hρ, rfl, hl, hcap, hhp, hoth, c, r, hd, hc⟩ := ha
          have hat' : AtR R (K.child (.ix i e.size)) c := ⟨bk, arr, el, l.length, r, hρ, hhp, by simpa [Key.child, offOf] using hd⟩
          obtain ⟨u, hk, us, _, ub, hu⟩ := ih hw hK' (hBc _) hc (fun _ => hat') (fun T hT => absurd hT (solid_hits b1))
          rw [b2] at us
          have := elemWr hK hB hi (by rw [VR.length hc, b2]) hd hρ hl hcap hhp hoth us ub hu hk
          obtain ⟨x, hx, q1, q2, q3, q4⟩ := this
          have hf : flat (.ix i e.size :: p) = false := by simp [flat, Stp.isIx]
          refine ⟨x, hx, q1, fun _ => ⟨q2, q3⟩, (fun e => by rw [hf] at e; simp at e), ?_⟩
          rw [hf]
          exact q4
        · exact hw.elim
      | l => exact hw.elim
      | r n => exact hw.elim
    | _ => cases i <;> exact hw.elim

end Go.Proofs.Ytlndfmmigndgeaa.Ev

/- Stores, in states. -/
namespace Go.Proofs.Ytlndfmmigndgeaa.Ev
open Go
set_option linter.unusedSimpArgs false
set_option linter.unusedVariables false

theorem St.fl_congr {st st1 : St} (h : ∀ lv s bx, st1.fl lv s bx = st.fl lv s bx) {k s : Nat} {u v : Slot} (hg : st1.get k s = some u) (hf : ∀ bx, v.flag bx = u.flag bx) (lv n : Nat) (bx : Bool) : (st1.set k s v).fl lv n bx = st.fl lv n bx := by
  rw [St.fl_set_same hg hf, h]

theorem key_reg_apart {st : St} {q : Pl} {i n : Nat} {b : Bool} (hi : i < st.length) (hq : q.r.k < st.length) (h : ¬ (i = q.r.k ∧ n = q.r.s ∧ b = q.r.bx)) (T : Key) (h1 : T.lv = st.length - 1 - i ∧ T.s = n ∧ T.bx = b) : ¬ T.under (st.key q) := by
  rintro ⟨a1, a2, a3, _⟩
  simp only [St.key] at a1 a2 a3
  exact h ⟨by omega, by rw [← h1.2.1, a2], by rw [← h1.2.2, a3]⟩

theorem le_nil_upd {C : Orc} {v a : AV} {i : Stp} {p : List Stp} {st : St} {k : AV → St → Prop} (h : (AV.upd v (i :: p) a).wp C st k) : a.isBad = false := by
  cases a <;> first | rfl | (cases i <;> exact h.elim)

/-- A place is written. -/
theorem Rel.stored {C : Orc} {w0 : Base} {w w' : World} {st st1 : St} {ts : List (Array Value)} {R R' : Cx} (h : Rel w0 st ts R w) (hl : st1.length = st.length) (hfr : ∀ i : Nat, (st1[i]?).map List.length = (st[i]?).map List.length)
    (hfl1 : ∀ lv s bx, st1.fl lv s bx = st.fl lv s bx) {D : Key → Prop} {j : Nat}
    (hsl : ∀ i n sl', st1.get i n = some sl' → ∃ sl, st.get i n = some sl ∧ sl'.v.le sl.v ∧ sl'.b.le sl.b ∧ (∀ T, sl'.v.hits (st.kv i n) T → R.fl T.lv T.s T.bx = true → ¬ D T) ∧ (∀ T, sl'.b.hits (st.kb i n) T → R.fl T.lv T.s T.bx = true → ¬ D T))
    {q : Pl} {s : Slot} (hs : st1.get q.r.k q.r.s = some s) (hne : q.p ≠ []) (hbr : q.r.bx = true → ∃ p', q.p = p' ++ [.r 0]) (hm : q.mem = true) {v : AV} {c' : List Value} (hwr : Wr R R' (st.key q) (st.hand j) c' D) (hv : VR R' v (st.key q) c') {k : AV → St → Prop}
    (hupd : (AV.upd v q.p.reverse (s.at q.r.bx)).wp C st1 k) (hh : R'.h = w'.heap) (hfl : R'.fl = R.fl)
    (inj : R'.Inj) (zd : ∀ b, R'.Z b → ∀ K n, R'.ρ K ≠ some (.blk b n)) (lo : ∀ K b n, R'.ρ K = some (.blk b n) → w0.heap.size ≤ b)
    (lt : ∀ K b n, R'.ρ K = some (.blk b n) → b < w'.heap.size) (zlt : ∀ b, R'.Z b → b < w'.heap.size) (bel : RowKit.Below w0.heap.size w0.toWorld w') (hz' : ∀ b, R'.Z b → R.Z b ∨ w0.heap.size ≤ b := by exact fun _ hb => .inl hb) :
    ∃ u, k u st1 ∧ Rel w0 (st1.set q.r.k q.r.s (s.put q.r.bx u)) ts R' w' := by
  have hqk : q.r.k < st.length := by have := St.get_lt hs; omega
  -- registers other than the place's
  have reg : ∀ (i n : Nat) (b : Bool) (K : Key), K = ⟨st.length - 1 - i, n, b, []⟩ → i < st.length → ¬ (i = q.r.k ∧ n = q.r.s ∧ b = q.r.bx) → (∀ T : Key, T.under K → ¬ T.under (st.hand j)) → ∀ x : AV, (∀ T, x.hits K T → R.fl T.lv T.s T.bx = true → ¬ D T) → R.Ok R' K x := by
    intro i n b K hK hi hc hhand x hx
    subst hK
    have hap : ∀ T : Key, T.under ⟨st.length - 1 - i, n, b, []⟩ → ¬ T.under (st.key q) := fun T hT => key_reg_apart hi hqk hc T ⟨hT.1, hT.2.1, hT.2.2.1⟩
    refine hwr.ok ?_ ?_ hx
    · intro T hT hD
      rcases hwr.dd T hD with hD | hD
      · exact hap T hT hD
      · exact hhand T hT hD
    · intro hn; exact hap _ (Key.under_of_node hn) (Key.under_refl _)
  obtain ⟨sl0, h0, hle1, hle2, hd1, hd2⟩ := hsl _ _ _ hs
  -- the holder
  obtain ⟨i0, p0, hp0⟩ : ∃ i p, q.p.reverse = i :: p := by
    cases e : q.p.reverse with
    | nil => exact absurd (by simpa using e) hne
    | cons i p => exact ⟨i, p, rfl⟩
  have hgood : (s.at q.r.bx).isBad = false := by rw [hp0] at hupd; exact le_nil_upd hupd
  obtain ⟨g1, g2⟩ := AV.notBad hgood
  let K0 : Key := st.key ⟨q.r, []⟩
  have hext : st.key q = K0.ext q.p.reverse := by simp [K0, St.key, Key.ext]
  have hapB : K0.apart (st.hand j) := by
    rcases hbx : q.r.bx with _ | _
    · have : K0 = st.kv q.r.k q.r.s := by simp [K0, St.key, St.kv, hbx]
      rw [this]; exact kv_hand_apart' st j h0
    · have : K0 = st.kb q.r.k q.r.s := by simp [K0, St.key, St.kb, hbx]
      rw [this]; exact kb_hand_apart _ _ _ _
  have hAne : (st.key q).p ≠ [] := hne
  have fin : ∀ cs, VR R (s.at q.r.bx) K0 cs → (flat q.p.reverse = true → AtR R K0 cs) → (∀ T, (s.at q.r.bx).hits K0 T → R.fl T.lv T.s T.bx = true → ¬ D T) →
      ∃ u, k u st1 ∧ (u.isAgg = (s.at q.r.bx).isAgg ∧ u.isBad = false) ∧ VR R' u K0 (if flat q.p.reverse = true then repl cs (pathOff q.p.reverse) c' else cs) := by
    intro cs hcs hat hhit
    obtain ⟨u, hk, _, h3, _, h5⟩ := upd_VR hwr hv hAne q.p.reverse hupd hext hapB hcs hat hhit
    exact ⟨u, hk, h3 (by simpa using hne), h5⟩
  cases hbx : q.r.bx with
  | false =>
    simp only [Slot.at, hbx, Bool.false_eq_true, if_false] at fin hupd g1 g2 hgood
    have hK0 : K0 = st.kv q.r.k q.r.s := by simp [K0, St.key, St.kv, hbx]
    have hnf : flat q.p.reverse = false := by
      rw [Pl.mem_old] at hm
      simp only [hbx, Bool.false_or, ixIn] at hm
      simp only [flat]
      rw [Bool.eq_false_iff]
      intro e
      simp only [List.any_eq_true, List.all_eq_true, Bool.not_eq_true'] at hm e
      obtain ⟨x, hx, hx'⟩ := hm
      have := e x hx
      rw [hx'] at this; simp at this
    -- the slot's value as it stands
    have hsl0 : ∃ t, ts[q.r.k]? = some t := by
      have : q.r.k < ts.length := by rw [← h.len]; exact hqk
      exact ⟨_, List.getElem?_eq_getElem this⟩
    obtain ⟨t, ht⟩ := hsl0
    have hsv := SV.frame hle1 (Cx.Frame.refl R _) (fun T _ e => ⟨e, .refl R T⟩) (h.slot q.r.k q.r.s sl0 t h0 ht)
    rw [SV_VV g2, VV_iff g1, ← hK0] at hsv
    rw [hnf] at fin
    simp only [Bool.false_eq_true, false_imp_iff, if_false, true_imp_iff, forall_const] at fin
    have new : ∃ u, k u st1 ∧ SV R' u K0 (t.getD q.r.s undef) := by
      by_cases hag : s.v.isAgg = true
      · rw [if_pos hag] at hsv
        obtain ⟨arr, e, hx⟩ := hsv
        obtain ⟨u, hk, ⟨hu1, hu2⟩, hu3⟩ := fin _ hx (by rw [hK0]; exact hd1)
        obtain ⟨u1, u2⟩ := AV.notBad hu2
        refine ⟨u, hk, ?_⟩
        rw [SV_VV u2, VV_iff u1, hu1, if_pos hag]
        exact ⟨arr, e, hu3⟩
      · rw [if_neg hag] at hsv
        obtain ⟨u, hk, ⟨hu1, hu2⟩, hu3⟩ := fin _ hsv (by rw [hK0]; exact hd1)
        obtain ⟨u1, u2⟩ := AV.notBad hu2
        refine ⟨u, hk, ?_⟩
        rw [SV_VV u2, VV_iff u1, hu1, if_neg hag]
        exact hu3
    obtain ⟨u, hk, hu⟩ := new
    have hput : s.put false u = { s with v := u } := rfl
    refine ⟨u, hk, ?_⟩
    rw [hput]
    refine h.step2 (by rw [St.length_set, hl]) (fun i => by rw [St.frames_set, hfr]) hh ?_ ?_ ?_ inj zd lo lt zlt bel hz'
    · intro lv n bx; rw [hfl, h.fl]; exact (St.fl_congr hfl1 hs (fun bx => by cases bx <;> rfl) lv n bx).symm
    · intro i n sl' hg
      rw [St.get_set] at hg
      split at hg
      · rename_i hc
        obtain ⟨rfl, rfl⟩ := hc
        simp only [hs, Option.map_some, Option.some.injEq] at hg
        subst hg
        refine ⟨sl0, h0, .inr ?_⟩
        intro t' ht'
        rw [ht] at ht'
        cases ht'
        rw [← hK0]; exact hu
      · rename_i hc
        obtain ⟨sl, hsl1, a1, a2, a3, a4⟩ := hsl i n sl' hg
        exact ⟨sl, hsl1, .inl ⟨a1, reg i n false _ rfl (St.get_lt hsl1) (fun e => hc ⟨e.1, e.2.1⟩) (kv_hand_apart' st j hsl1) _ a3⟩⟩
    · intro i n sl' hg
      rw [St.get_set] at hg
      split at hg
      · rename_i hc
        obtain ⟨rfl, rfl⟩ := hc
        simp only [hs, Option.map_some, Option.some.injEq] at hg
        subst hg
        exact ⟨sl0, h0, .inl ⟨hle2, reg _ _ true _ rfl (St.get_lt h0) (fun e => by rw [hbx] at e; simp at e) (kb_hand_apart _ _ _ _) _ hd2⟩⟩
      · rename_i hc
        obtain ⟨sl, hsl1, a1, a2, a3, a4⟩ := hsl i n sl' hg
        exact ⟨sl, hsl1, .inl ⟨a2, reg i n true _ rfl (St.get_lt hsl1) (fun e => hc ⟨e.1, e.2.1⟩) (kb_hand_apart _ _ _ _) _ a4⟩⟩
  | true =>
    simp only [Slot.at, hbx, if_true] at fin hupd g1 g2 hgood
    have hK0 : K0 = st.kb q.r.k q.r.s := by simp [K0, St.key, St.kb, hbx]
    have hbox := BoxR.frame hle2 (Cx.Frame.refl R _) (fun T _ e => ⟨e, .refl R T⟩) (h.box q.r.k q.r.s sl0 h0)
    rw [← hK0] at hbox
    have new : ∃ u, k u st1 ∧ BoxR R' u K0 := by
      rcases hbox with e | ⟨b, arr, el, e1, e2, e3⟩
      · exact absurd e g1
      obtain ⟨u, hk, _, hu3⟩ := fin _ e3 (fun _ => ⟨b, arr, el, 0, [], by rw [show K0.node = K0 from by simp [K0, St.key, Key.node, nodeOf]]; exact e1, e2, by simp [K0, St.key, offOf]⟩) (by rw [hK0]; exact hd2)
      have hKD : ¬ D K0 := by
        intro hD
        rcases hwr.dd _ hD with hD | hD
        · have := hD.2.2.2.length_le
          simp only [K0, St.key, List.length_nil, Nat.le_zero, List.length_eq_zero_iff] at this
          exact hne this
        · exact hapB _ (Key.under_refl _) hD
      have hρ : R'.ρ K0 = some (.blk b 0) := by rw [hwr.own _ hKD]; exact e1
      obtain ⟨b', n, arr', el', f1, f2, f3, f4⟩ := hwr.blk
      by_cases hfp : flat q.p.reverse = true
      · have hfq : flat q.p = true := by simpa [flat] using hfp
        have hnode : (st.key q).node = K0 := by
          have := nodeOf_flat (q := []) hfq
          simp only [List.append_nil] at this
          simp only [Key.node, St.key, K0, this, nodeOf]
        have hoff : offOf (st.key q).p = pathOff q.p.reverse := by
          have := offOf_flat (q := []) hfq
          simp only [List.append_nil] at this
          simp only [St.key, this, offOf, pathOff_reverse hfq, Nat.add_zero]
        rw [hnode, e1] at f1
        simp only [Option.some.injEq, Nd.blk.injEq] at f1
        obtain ⟨rfl, rfl⟩ := f1
        rw [e2] at f2
        cases f2
        rw [if_pos hfp] at hu3
        refine ⟨u, hk, .inr ⟨b, _, el, hρ, f3, ?_⟩⟩
        rw [hoff]; exact hu3
      · rw [if_neg hfp] at hu3
        refine ⟨u, hk, .inr ⟨b, arr, el, hρ, ?_, hu3⟩⟩
        refine hwr.oth b _ ?_ e2
        intro n' e'
        have := hwr.inj _ _ _ _ _ e' e1
        obtain ⟨p', hp'⟩ := hbr hbx
        have hfp' : flat p' = false := by
          rw [Bool.eq_false_iff]
          intro e
          apply hfp
          rw [hp']
          apply flat_reverse
          simp only [flat, List.all_append, Bool.and_eq_true] at e ⊢
          exact ⟨e, by simp [Stp.isIx]⟩
        have hl1 := nodeOf_notflat (p := p') (q := [.r 0]) hfp'
        have hl2 := congrArg (fun K : Key => K.p.length) this
        simp only [Key.node, St.key, K0, hp', List.length_nil, List.length_singleton] at hl1 hl2
        omega
    obtain ⟨u, hk, hu⟩ := new
    have hput : s.put true u = { s with b := u } := rfl
    refine ⟨u, hk, ?_⟩
    rw [hput]
    refine h.step2 (by rw [St.length_set, hl]) (fun i => by rw [St.frames_set, hfr]) hh ?_ ?_ ?_ inj zd lo lt zlt bel hz'
    · intro lv n bx; rw [hfl, h.fl]; exact (St.fl_congr hfl1 hs (fun bx => by cases bx <;> rfl) lv n bx).symm
    · intro i n sl' hg
      rw [St.get_set] at hg
      split at hg
      · rename_i hc
        obtain ⟨rfl, rfl⟩ := hc
        simp only [hs, Option.map_some, Option.some.injEq] at hg
        subst hg
        exact ⟨sl0, h0, .inl ⟨hle1, reg _ _ false _ rfl (St.get_lt h0) (fun e => by rw [hbx] at e; simp at e) (kv_hand_apart' st j h0) _ hd1⟩⟩
      · rename_i hc
        obtain ⟨sl, hsl1, a1, a2, a3, a4⟩ := hsl i n sl' hg
        exact ⟨sl, hsl1, .inl ⟨a1, reg i n false _ rfl (St.get_lt hsl1) (fun e => hc ⟨e.1, e.2.1⟩) (kv_hand_apart' st j hsl1) _ a3⟩⟩
    · intro i n sl' hg
      rw [St.get_set] at hg
      split at hg
      · rename_i hc
        obtain ⟨rfl, rfl⟩ := hc
        simp only [hs, Option.map_some, Option.some.injEq] at hg
        subst hg
        exact ⟨sl0, h0, .inr (by rw [← hK0]; exact hu)⟩
      · rename_i hc
        obtain ⟨sl, hsl1, a1, a2, a3, a4⟩ := hsl i n sl' hg
        exact ⟨sl, hsl1, .inl ⟨a2, reg i n true _ rfl (St.get_lt hsl1) (fun e => hc ⟨e.1, e.2.1⟩) (kb_hand_apart _ _ _ _) _ a4⟩⟩

end Go.Proofs.Ytlndfmmigndgeaa.Ev

/- The store. -/
namespace Go.Proofs.Ytlndfmmigndgeaa.Ev
open Go
set_option linter.unusedSimpArgs false
set_option linter.unusedVariables false

theorem upd_at {C : Orc} {R : Cx} {v : AV} : ∀ (path : List Stp) {a : AV} {K : Key} {cs : List Value} {st : St} {k : AV → St → Prop},
    (AV.upd v path a).wp C st k → VR R a K cs → (flat path = true → AtR R K cs) → ∃ c, c.length = v.size ∧ AtR R (K.ext path) c := by
  intro path
  induction path with
  | nil =>
    intro a K cs st k hw ha hat
    simp only [AV.upd] at hw
    split at hw
    · rename_i hs
      exact ⟨cs, by rw [VR.length ha, hs], by simpa [Key.ext] using hat rfl⟩
    · exact hw.elim
  | cons i p ih =>
    intro a K cs st k hw ha hat
    rw [Key.ext_cons]
    cases a with
    | pair x y =>
      obtain ⟨c1, c2, rfl, h1, h2⟩ := ha
      cases i with
      | l =>
        simp only [AV.upd, M.wp_bind] at hw
        exact ih hw h1 (fun e => (hat (by simpa [flat, Stp.isIx] using e)).left)
      | r n =>
        simp only [AV.upd] at hw
        split at hw
        · rename_i hn
          subst hn
          rw [M.wp_bind] at hw
          exact ih hw h2 (fun e => (hat (by simpa [flat, Stp.isIx] using e)).right (VR.length h1))
        · exact hw.elim
      | ix i z => exact hw.elim
    | d s x =>
      cases s with
      | pair s t =>
        obtain ⟨c1, c2, rfl, h1, h2⟩ := ha
        cases i with
        | l =>
          simp only [AV.upd, M.wp_bind] at hw
          exact ih (a := .d s x.1) hw h1 (fun e => (hat (by simpa [flat, Stp.isIx] using e)).left)
        | r n =>
          simp only [AV.upd] at hw
          split at hw
          · rename_i hn
            subst hn
            rw [M.wp_bind] at hw
            exact ih (a := .d t x.2) hw h2 (fun e => (hat (by simpa [flat, Stp.isIx] using e)).right (DR.length h1))
          · exact hw.elim
        | ix i z => exact hw.elim
      | _ => cases i <;> exact hw.elim
    | own e o l =>
      cases i with
      | ix i z =>
        simp only [AV.upd] at hw
        split at hw
        · rename_i hz
          subst hz
          obtain ⟨hi, hw⟩ := hw
          rw [M.wp_bind] at hw
          simp only [VR, OR] at ha
          rcases ha with ⟨_, rfl, _⟩ | ⟨bk, cap, arr, el, hρ, rfl, hl, hcap, hhp, hs⟩
          · simp at hi
          obtain ⟨c, r, hd, hc⟩ := SegI.get e.dflt (fun _ _ _ => OR.length) l 0 _ hs i hi
          rw [Nat.zero_add] at hc
          exact ih hw ((unpack_VR _ _ _ _ _).2 hc) (fun _ => ⟨bk, arr, el, l.length, r, hρ, hhp, by simpa [Key.child, offOf] using hd⟩)
        · exact hw.elim
      | l => exact hw.elim
      | r n => exact hw.elim
    | hol e o l j b =>
      cases i with
      | ix i z =>
        simp only [AV.upd] at hw
        split at hw
        · rename_i hz
          subst hz
          obtain ⟨rfl, hw⟩ := hw
          rw [M.wp_bind] at hw
          obtain ⟨_, _, _, bk, cap, arr, el, h4, _, h5, h6, h7, _, c, r, h9, h10⟩ := ha
          exact ih hw h10 (fun _ => ⟨bk, arr, el, l.length, r, h4, h7, by simpa [Key.child, offOf] using h9⟩)
        · exact hw.elim
      | l => exact hw.elim
      | r n => exact hw.elim
    | _ => cases i <;> exact hw.elim

theorem DVR {R : Cx} : ∀ {v : AV} {K K' : Key} {cs : List Value}, v.isD = true → VR R v K cs → VR R v K' cs := by
  intro v
  induction v with
  | d s x => intro K K' cs _ h; exact h
  | dp s x => intro K K' cs _ h; exact h
  | pair a b iha ihb =>
    intro K K' cs hd h
    simp only [AV.isD, Bool.and_eq_true] at hd
    obtain ⟨c1, c2, rfl, h1, h2⟩ := h
    exact ⟨c1, c2, rfl, iha hd.1 h1, ihb hd.2 h2⟩
  | unit => intro K K' cs _ h; exact h
  | _ => intro K K' cs hd; simp [AV.isD] at hd

theorem isD_hits : ∀ {v : AV} {K T : Key}, v.isD = true → ¬ v.hits K T := by
  intro v
  induction v with
  | d s x => intro K T _ h; exact h
  | dp s x => intro K T _ h; exact h
  | pair a b iha ihb =>
    intro K T hd h
    simp only [AV.isD, Bool.and_eq_true] at hd
    rcases h with h | h
    · exact iha hd.1 h
    · exact ihb hd.2 h
  | unit => intro K T _ h; exact h
  | _ => intro K T hd; simp [AV.isD] at hd

theorem key_hand_apart {st : St} {q : Pl} {s : Slot} (hs : st.get q.r.k q.r.s = some s) (j : Nat) : (st.key q).apart (st.hand j) := by
  have hK : (st.key q).under (st.key ⟨q.r, []⟩) := ⟨rfl, rfl, rfl, List.nil_suffix⟩
  refine Key.apart_sub ?_ hK
  cases hbx : q.r.bx with
  | false =>
    have : st.key ⟨q.r, []⟩ = st.kv q.r.k q.r.s := by simp [St.key, St.kv, hbx]
    rw [this]; exact kv_hand_apart' st j hs
  | true =>
    have : st.key ⟨q.r, []⟩ = st.kb q.r.k q.r.s := by simp [St.key, St.kb, hbx]
    rw [this]; exact kb_hand_apart _ _ _ _

theorem run_storeAt_cells {P : Program} {t : TypeId} {i : TypeInfo} (hi : P.info? t = some i) {w : World} {b off : Nat} {arr : Array Value} {el : TypeId} {val : Value} (hh : w.heap[b]? = some (.cells arr el (0, 0)))
    (hs : i.size = val.cells.toList.length) (hb : off + val.cells.toList.length ≤ arr.size) (h1 : ∀ v ∈ val.cells.toList, v.oneCell' = true) :
    (Instr.storeAt t (.pointer (some ⟨b, off, none⟩)) val).run P w = .ok () (w.setRow b (repl arr.toList off val.cells.toList).toArray) := by
  have := run_storeCells_at P b off el val.cells.toList 0 arr w hh (by simpa using hb) h1
  simp only [Nat.add_zero] at this
  have hs' : val.cells.size = i.size := by rw [hs]; simp
  simp only [Instr.storeAt, Instr.sureAddr, Sem.run_bind, Sem.run_pure, Result.andThen_ok, storeVar, run_size hi, hs', ne_eq, not_true, if_false, this, repl]

theorem St.key_scrub (st : St) (s : Nat) (b : Bool) (p : List Stp) (q : Pl) : (st.scrub s b p).key q = st.key q := by simp [St.key, St.length_scrub]

/-- A value in a hand is stored at a place. -/
theorem storeAV_ok {P : Program} {C : Orc} {w0 : Base} {w : World} {st : St} {ts : List (Array Value)} {R : Cx} (h : Rel w0 st ts R w) {v : AV} {val : Value} {j : Nat} (hv : SV R v (st.hand j) val) {p : AV} {pv : Value} (hp : ∃ K : Key, K.lv = st.length - 1 ∧ SV R p K pv)
    {k : Unit → St → Prop} (hw : (storeAV v p).wp C st k) {t : TypeId} {i : TypeInfo} (hi : P.info? t = some i) (hsz : i.size = v.size) :
    ∃ st' R' w', k () st' ∧ Rel w0 st' ts R' w' ∧ (Instr.storeAt t pv val).run P w = .ok () w' := by
  unfold storeAV at hw
  split at hw
  · rename_i q
    by_cases hc : (q.badPlace || !q.mem || v.isBad || v.size == 0) = true
    · change cond (q.badPlace || !q.mem || v.isBad || v.size == 0) _ _ at hw
      rw [hc] at hw; exact hw.elim
    change cond (q.badPlace || !q.mem || v.isBad || v.size == 0) _ _ at hw
    rw [Bool.eq_false_iff.2 hc] at hw
    change M.wp C (if v.hasOwn = true then _ else _) st k at hw
    simp only [Bool.or_eq_true, Bool.not_eq_true', not_or, Bool.not_eq_true, Bool.not_eq_false, beq_eq_false_iff_ne, ne_eq] at hc
    obtain ⟨⟨⟨hc1, hm⟩, hb⟩, hz⟩ := hc
    obtain ⟨b1, b2⟩ := AV.notBad hb
    have hne : q.p ≠ [] := by
      intro e; simp only [Pl.badPlace, e] at hc1; split at hc1 <;> simp at hc1
    have hbr : q.r.bx = true → ∃ p', q.p = p' ++ [.r 0] := by
      intro e
      simp only [Pl.badPlace] at hc1
      rw [if_pos e] at hc1
      simp only [bne_eq_false_iff_eq] at hc1
      obtain ⟨p', hp'⟩ := List.getLast?_eq_some_iff.1 hc1
      exact ⟨p', hp'⟩
    obtain ⟨K, hK, hp⟩ := hp
    have hcv : VR R v (st.hand j) val.cells.toList := SV_cells hb hv
    have hlen := VR.length hcv
    -- where it goes
    have place : ∀ {st1 : St} {s : Slot} {v' : AV} {k' : AV → St → Prop}, st1.length = st.length → (∀ (s : Slot), st1.get q.r.k q.r.s = some s → ∃ sl, st.get q.r.k q.r.s = some sl ∧ s.v.le sl.v ∧ s.b.le sl.b) → v'.size = v.size →
        st1.get q.r.k q.r.s = some s → (AV.upd v' q.p.reverse (s.at q.r.bx)).wp C st1 k' →
        ∃ b arr el n, R.ρ (st.key q).node = some (.blk b n) ∧ w.heap[b]? = some (.cells arr el (0, 0)) ∧ offOf q.p + val.cells.toList.length ≤ arr.size ∧ pv = .pointer (some ⟨b, offOf q.p, none⟩) := by
      intro st1 s v' k' hl1 hle hsz' hs hu
      obtain ⟨sl, hsl, hle1, hle2⟩ := hle s hs
      obtain ⟨i0, p0, hp0⟩ : ∃ i p, q.p.reverse = i :: p := by
        cases e : q.p.reverse with
        | nil => exact absurd (by simpa using e) hne
        | cons i p => exact ⟨i, p, rfl⟩
      have hgood : (s.at q.r.bx).isBad = false := by rw [hp0] at hu; exact le_nil_upd hu
      obtain ⟨g1, g2⟩ := AV.notBad hgood
      have hle' : (s.at q.r.bx).le (sl.at q.r.bx) := by cases q.r.bx <;> simp only [Slot.at, Bool.false_eq_true, if_false, if_true] <;> assumption
      have gle : (sl.at q.r.bx) ≠ .undef ∧ ∀ y, sl.at q.r.bx ≠ .tup y := by
        constructor
        · intro e; rw [e] at hle'; exact g1 (AV.le_undef hle')
        · intro y e; rw [e] at hle'; cases hh : s.at q.r.bx <;> rw [hh] at hle' g2 g1 <;> simp only [AV.le] at hle' <;> first | exact absurd rfl (g2 _) | exact hle'.elim | exact absurd rfl g1
      obtain ⟨cs, hcs, hat⟩ := at_ok h hsl gle.1 gle.2
      have hcs := VR.frame hle' (Cx.Frame.refl R _) (fun T _ e => ⟨e, .refl R T⟩) hcs
      have hat' : flat q.p.reverse = true → AtR R (st.key ⟨q.r, []⟩) cs := by
        intro e
        apply hat
        rw [Pl.mem_old] at hm
        simp only [Bool.or_eq_true] at hm
        rcases hm with hm | hm
        · exact hm
        · exfalso
          simp only [ixIn, List.any_eq_true] at hm
          obtain ⟨x, hx, hx'⟩ := hm
          simp only [flat, List.all_eq_true] at e
          have := e x hx
          rw [hx'] at this; simp at this
      obtain ⟨c, hcl, b, arr, el, n, r, e1, e2, e3⟩ := upd_at q.p.reverse hu hcs hat'
      have hext : (st.key ⟨q.r, []⟩).ext q.p.reverse = st.key q := by simp [St.key, Key.ext]
      rw [hext] at e1 e3
      obtain ⟨u, e, _, hpr⟩ : VR R (.ptr q) K [pv] := hp
      simp only [List.cons.injEq, and_true] at e
      subst e
      rw [at_key hK, e1] at hpr
      refine ⟨b, arr, el, n, e1, by rw [← h.hh]; exact e2, ?_, hpr⟩
      have := congrArg List.length e3
      simp only [List.length_drop, List.length_append, Array.length_toList] at this
      simp only [St.key] at this
      omega
    by_cases ho : v.hasOwn = true
    · rw [if_pos ho] at hw
      by_cases hk0 : q.r.k = 0
      · rw [if_pos hk0] at hw
        replace hw : (storeAt (v.scrub ⟨0, q.r.s, q.r.bx⟩ q.p) q).wp C (st.scrub q.r.s q.r.bx q.p) k := hw
        rw [storeP_wp] at hw
        simp only [M.wp_rd] at hw
        obtain ⟨s, hs, hu⟩ := hw
        rw [M.wp_bind] at hu
        have hle := AV.scrub_le ⟨0, q.r.s, q.r.bx⟩ q.p v
        have hsl : ∀ i n sl', (st.scrub q.r.s q.r.bx q.p).get i n = some sl' → ∃ sl, st.get i n = some sl ∧ sl'.v.le sl.v ∧ sl'.b.le sl.b ∧ (∀ T, sl'.v.hits (st.kv i n) T → R.fl T.lv T.s T.bx = true → ¬ (T.under (st.key q) ∨ T.under (st.hand j))) ∧ (∀ T, sl'.b.hits (st.kb i n) T → R.fl T.lv T.s T.bx = true → ¬ (T.under (st.key q) ∨ T.under (st.hand j))) := by
          intro i n sl' hg
          obtain ⟨sl0, h0, a1, a2, a3, a4⟩ := scrub_slot_hits hg
          have hkq : st.key q = ⟨st.length - 1, q.r.s, q.r.bx, q.p⟩ := by simp [St.key, hk0]
          have nh : ∀ T : Key, R.fl T.lv T.s T.bx = true → ¬ T.under (st.hand j) := by
            intro T e hT; rw [fl_under hT, h.fl_hand] at e; simp at e
          refine ⟨sl0, h0, a1, a2, ?_, ?_⟩
          · rintro T hT e (hD | hD)
            · rw [hkq] at hD; exact a3 T hT hD
            · exact nh T e hD
          · rintro T hT e (hD | hD)
            · rw [hkq] at hD; exact a4 T hT hD
            · exact nh T e hD
        obtain ⟨b, arr, el, n, e1, e2, e3, e4⟩ := place (v' := v.scrub ⟨0, q.r.s, q.r.bx⟩ q.p) (St.length_scrub ..) (fun s hs => by obtain ⟨sl, q1, q2, q3, _⟩ := hsl _ _ _ hs; exact ⟨sl, q1, q2, q3⟩) (AV.le_size hle) hs hu
        let c' := val.cells.toList
        let w' := w.setRow b (repl arr.toList (offOf q.p) c').toArray
        have hrun := run_storeAt_cells (P := P) hi e2 (by rw [hsz, hlen]) e3 hcv.one
        obtain ⟨sl, hsl0, _⟩ := hsl _ _ _ hs
        have hap : (st.key q).apart (st.hand j) := key_hand_apart hsl0 j
        have hlv : (st.hand j).lv = (st.key q).lv := by simp [St.hand, St.key, hk0]
        let R1 := R.mv (st.hand j) (st.key q)
        let R' : Cx := { R1 with h := w'.heap }
        have hb' : R'.h[b]? = some (.cells (repl arr.toList (offOf q.p) c').toArray el (0, 0)) := setRow_heap w b arr _ el _ e2
        have hoth : ∀ (b' : Nat) (o : Obj), b' ≠ b → w.heap[b']? = some o → w'.heap[b']? = some o := by
          intro b' o hb' ho; simp only [w']; rw [setRow_other w b b' _ hb']; exact ho
        have hnd : ¬ (st.key q).node.under (st.key q) := by
          intro hn
          have := hn.2.2.2.length_le
          have := nodeOf_lt hne
          simp only [Key.node, St.key] at *
          omega
        have hnB : ¬ (st.key q).node.under (st.hand j) := by
          intro hn; exact hap _ (Key.under_refl _) (Key.under_of_node hn)
        have hwr : Wr R R' (st.key q) (st.hand j) c' (fun T => T.under (st.key q) ∨ T.under (st.hand j)) := by
          refine ⟨fun _ => id, ⟨b, n, arr, el, e1, by rw [h.hh]; exact e2, hb', e3⟩, ?_, ?_, fun T => id, fun _ _ _ => id, h.zd, h.inj⟩
          · intro b' o hb2 ho
            rw [h.hh] at ho
            refine hoth b' o ?_ ho
            rintro rfl; exact hb2 n e1
          · intro T hT
            exact R.mv_off (fun e => hT (.inr e)) (fun e => hT (.inl e))
        have hv1 : VR R1 (v.scrub ⟨0, q.r.s, q.r.bx⟩ q.p) (st.key q) c' := by
          have hcv' := VR.frame hle (Cx.Frame.refl R _) (fun T _ e => ⟨e, .refl R T⟩) hcv
          refine VR.mv_self (A := st.hand j) (B := st.key q) hlv (q := []) ?_ hcv'
          intro T hT _ hD
          refine scrub_hits (N := st.length - 1) (by simp [St.hand]) hT ?_
          have hkq : st.key q = ⟨st.length - 1, q.r.s, q.r.bx, q.p⟩ := by simp [St.key, hk0]
          rw [← hkq]; exact hD
        have hinj1 : R1.Inj := h.inj.mv _ _
        have hwr1 : Wr R1 R' (st.key q) (st.hand j) c' (fun _ => False) := by
          have hρ1 : R1.ρ (st.key q).node = some (.blk b n) := by rw [← e1]; exact R.mv_off hnB hnd
          refine ⟨fun _ => id, ⟨b, n, arr, el, hρ1, (by show R.h[b]? = _; rw [h.hh]; exact e2), hb', e3⟩, ?_, fun _ _ => rfl, fun _ hF => hF.elim, fun _ _ _ => id, ?_, hinj1⟩
          · intro b' o hb2 ho
            replace ho : R.h[b']? = some o := ho
            rw [h.hh] at ho
            refine hoth b' o ?_ ho
            rintro rfl; exact hb2 n hρ1
          · exact (Cx.mv_facts (w0 := w0) (w := w) h.zd h.lo h.lt).1
        obtain ⟨q1, q2⟩ := hwr1.ok (K := st.key q) (x := v.scrub ⟨0, q.r.s, q.r.bx⟩ q.p) (fun _ _ => id) hnd (fun _ _ _ => id)
        have hv' : VR R' (v.scrub ⟨0, q.r.s, q.r.bx⟩ q.p) (st.key q) c' := VR.frame (AV.le_refl _) q1 q2 hv1
        obtain ⟨f1, f2, f3⟩ := Cx.mv_facts (A := st.hand j) (B := st.key q) h.zd h.lo h.lt
        have hsize : w'.heap.size = w.heap.size := by simp [w', World.setRow]
        have hbel : RowKit.Below w0.heap.size w0.toWorld w' := h.bel.trans ⟨rfl, rfl, rfl, by rw [hsize]; exact Nat.le_refl _, fun k hk => setRow_other w b k _ (by have := h.lo _ _ _ e1; omega)⟩
        obtain ⟨u, hk, hR⟩ := h.stored (St.length_scrub ..) (fun i => St.frames_scrub ..) (fun lv s bx => St.fl_scrub ..) hsl hs hne hbr hm hwr hv' hu rfl rfl hinj1 f1 f2 (fun K b n e => by rw [hsize]; exact f3 K b n e) (fun b hb => by rw [hsize]; exact h.zlt b hb) hbel
        rw [M.wp_wr] at hk
        exact ⟨_, R', w', hk.2, hR, by rw [e4]; exact hrun⟩
      · rw [if_neg hk0] at hw; exact hw.elim
    · rw [if_neg ho] at hw
      have ho : v.hasOwn = false := by simpa using ho
      change cond (v.isD || q.r.k == 0) _ _ at hw
      by_cases hk0 : (v.isD || q.r.k == 0) = true
      · rw [hk0] at hw
        replace hw : (storeAt v q).wp C st k := hw
        rw [storeP_wp] at hw
        simp only [M.wp_rd] at hw
        obtain ⟨s, hs, hu⟩ := hw
        rw [M.wp_bind] at hu
        have hsl : ∀ i n sl', st.get i n = some sl' → ∃ sl, st.get i n = some sl ∧ sl'.v.le sl.v ∧ sl'.b.le sl.b ∧ (∀ T, sl'.v.hits (st.kv i n) T → R.fl T.lv T.s T.bx = true → ¬ False) ∧ (∀ T, sl'.b.hits (st.kb i n) T → R.fl T.lv T.s T.bx = true → ¬ False) :=
          fun i n sl' hg => ⟨sl', hg, AV.le_refl _, AV.le_refl _, fun _ _ _ => id, fun _ _ _ => id⟩
        obtain ⟨b, arr, el, n, e1, e2, e3, e4⟩ := place (v' := v) rfl (fun s hs => ⟨s, hs, AV.le_refl _, AV.le_refl _⟩) rfl hs hu
        let c' := val.cells.toList
        let w' := w.setRow b (repl arr.toList (offOf q.p) c').toArray
        have hrun := run_storeAt_cells (P := P) hi e2 (by rw [hsz, hlen]) e3 hcv.one
        have hap : (st.key q).apart (st.hand j) := key_hand_apart hs j
        let R' : Cx := { R with h := w'.heap }
        have hb' : R'.h[b]? = some (.cells (repl arr.toList (offOf q.p) c').toArray el (0, 0)) := setRow_heap w b arr _ el _ e2
        have hoth : ∀ (b' : Nat) (o : Obj), b' ≠ b → w.heap[b']? = some o → w'.heap[b']? = some o := by
          intro b' o hb' ho; simp only [w']; rw [setRow_other w b b' _ hb']; exact ho
        have hnd : ¬ (st.key q).node.under (st.key q) := by
          intro hn
          have := hn.2.2.2.length_le
          have := nodeOf_lt hne
          simp only [Key.node, St.key] at *
          omega
        have hnB : ¬ (st.key q).node.under (st.hand j) := by
          intro hn; exact hap _ (Key.under_refl _) (Key.under_of_node hn)
        have hwr : Wr R R' (st.key q) (st.hand j) c' (fun _ => False) := by
          refine ⟨fun _ => id, ⟨b, n, arr, el, e1, by rw [h.hh]; exact e2, hb', e3⟩, ?_, fun _ _ => rfl, fun _ hF => hF.elim, fun _ _ _ => id, h.zd, h.inj⟩
          intro b' o hb2 ho
          rw [h.hh] at ho
          refine hoth b' o ?_ ho
          rintro rfl; exact hb2 n e1
        have hv1 : VR R v (st.key q) c' := by
          by_cases hq0 : q.r.k = 0
          · exact VR.move ho (by simp [St.hand, St.key, hq0]) hcv
          · have : v.isD = true := by simpa [hq0] using hk0
            exact DVR this hcv
        obtain ⟨q1, q2⟩ := hwr.ok (K := st.key q) (x := v) (fun _ _ => id) hnd (fun _ _ _ => id)
        have hv' : VR R' v (st.key q) c' := VR.frame (AV.le_refl _) q1 q2 hv1
        have hsize : w'.heap.size = w.heap.size := by simp [w', World.setRow]
        have hbel : RowKit.Below w0.heap.size w0.toWorld w' := h.bel.trans ⟨rfl, rfl, rfl, by rw [hsize]; exact Nat.le_refl _, fun k hk => setRow_other w b k _ (by have := h.lo _ _ _ e1; omega)⟩
        obtain ⟨u, hk, hR⟩ := h.stored (st1 := st) rfl (fun i => rfl) (fun lv s bx => rfl) hsl hs hne hbr hm hwr hv' hu rfl rfl h.inj h.zd h.lo (fun K b n e => by rw [hsize]; exact h.lt K b n e) (fun b hb => by rw [hsize]; exact h.zlt b hb) hbel
        rw [M.wp_wr] at hk
        exact ⟨_, R', w', hk.2, hR, by rw [e4]; exact hrun⟩
      · rw [Bool.eq_false_iff.2 hk0] at hw; exact hw.elim
  · exact hw.elim

end Go.Proofs.Ytlndfmmigndgeaa.Ev

/- Hands: what is taken and not yet put anywhere. -/
namespace Go.Proofs.Ytlndfmmigndgeaa.Ev
open Go
set_option linter.unusedSimpArgs false
set_option linter.unusedVariables false

/-- A key behind the running frame's slots. -/
def St.isHand (st : St) (K : Key) : Prop := K.lv = st.length - 1 ∧ (st.headD []).length ≤ K.s ∧ K.bx = false

theorem isHand_hand (st : St) (j : Nat) : st.isHand (st.hand j) := ⟨rfl, by simp [St.hand], rfl⟩
theorem isHand_under {st : St} {K B : Key} (h : K.under B) (hB : st.isHand B) : st.isHand K := ⟨h.1.trans hB.1, by rw [h.2.1]; exact hB.2.1, h.2.2.1.trans hB.2.2⟩

theorem isHand_fl {w0 : Base} {w : World} {st : St} {ts : List (Array Value)} {R : Cx} (h : Rel w0 st ts R w) {K : Key} (hK : st.isHand K) : R.fl K.lv K.s K.bx = false := by
  obtain ⟨j, hj⟩ : ∃ j, K.s = (st.headD []).length + j := ⟨K.s - (st.headD []).length, by have := hK.2.1; omega⟩
  rw [hK.1, hj, h.fl]; exact St.fl_hand st j _

theorem isHand_kv {st : St} {i s : Nat} {sl : Slot} (hg : st.get i s = some sl) {T : Key} (hT : T.under (st.kv i s)) : ¬ st.isHand T := by
  intro hh
  obtain ⟨j, hj⟩ : ∃ j, T.s = (st.headD []).length + j := ⟨T.s - (st.headD []).length, by have := hh.2.1; omega⟩
  exact kv_hand_apart' st j hg T hT ⟨hh.1, hj, hh.2.2, List.nil_suffix⟩

theorem isHand_kb {st : St} {i s : Nat} {T : Key} (hT : T.under (st.kb i s)) : ¬ st.isHand T := by
  intro hh
  have := hT.2.2.1
  rw [hh.2.2] at this
  simp [St.kb] at this

/-- What lies in hands changes; memory may grow, more may be frozen. -/
theorem Rel.handsStep {w0 : Base} {w w' : World} {st : St} {ts : List (Array Value)} {R R' : Cx} (h : Rel w0 st ts R w)
    (hρ : ∀ K : Key, ¬ st.isHand K → R'.ρ K = R.ρ K) (hZ : ∀ b, R.Z b → R'.Z b) (hfl : R'.fl = R.fl) (hh : R'.h = w'.heap)
    (hkeep : ∀ (b : Nat) (o : Obj), (∀ K n, st.isHand K → R.ρ K ≠ some (.blk b n)) → w.heap[b]? = some o → w'.heap[b]? = some o)
    (inj : R'.Inj) (zd : ∀ b, R'.Z b → ∀ K n, R'.ρ K ≠ some (.blk b n)) (lo : ∀ K b n, R'.ρ K = some (.blk b n) → w0.heap.size ≤ b)
    (lt : ∀ K b n, R'.ρ K = some (.blk b n) → b < w'.heap.size) (zlt : ∀ b, R'.Z b → b < w'.heap.size) (bel : RowKit.Below w0.heap.size w0.toWorld w') (hz' : ∀ b, R'.Z b → R.Z b ∨ w0.heap.size ≤ b := by exact fun _ hb => .inl hb) :
    Rel w0 st ts R' w' := by
  have keep : ∀ (K : Key), (∀ T : Key, T.under K → ¬ st.isHand T) → ∀ v : AV, R.Ok R' K v := by
    intro K hK v
    have hb : ∀ (T : Key) b n o, ¬ st.isHand T → R.ρ T = some (.blk b n) → R.h[b]? = some o → R'.h[b]? = some o := by
      intro T b n o hT hr ho
      rw [hh]; rw [h.hh] at ho
      refine hkeep b o ?_ ho
      intro K' m hK' e
      exact hT (h.inj _ _ _ _ _ e hr ▸ hK')
    refine ⟨⟨hZ, ?_, fun T hT => hρ T (hK T hT), fun T b n o hT => hb T b n o (hK T hT)⟩, ?_⟩
    · intro b o hz ho
      rw [hh]; rw [h.hh] at ho
      exact hkeep b o (fun K' m _ => h.zd b hz K' m) ho
    · intro T _ e
      have hT : ¬ st.isHand T := by intro hT; rw [isHand_fl h hT] at e; simp at e
      exact ⟨by rw [hfl]; exact e, .inr ⟨hρ T hT, fun b n arr el hr ho => ⟨arr, hb T b n _ hT hr ho, rfl⟩⟩⟩
  refine ⟨hh, fun lv s bx => by rw [hfl]; exact h.fl lv s bx, h.len, h.sz, ?_, ?_, inj, zd, lo, lt, zlt, bel, (fun b hb => (hz' b hb).elim (h.zlo b) .inr)⟩
  · intro i s sl t hg ht
    obtain ⟨q1, q2⟩ := keep _ (fun T hT => isHand_kv hg hT) sl.v
    exact SV.frame (AV.le_refl _) q1 q2 (h.slot i s sl t hg ht)
  · intro i s sl hg
    obtain ⟨q1, q2⟩ := keep _ (fun T hT => isHand_kb hT) sl.b
    exact BoxR.frame (AV.le_refl _) q1 q2 (h.box i s sl hg)

/-- From one hand's key to another's. -/
theorem Rel.mvHands {w0 : Base} {w : World} {st : St} {ts : List (Array Value)} {R : Cx} (h : Rel w0 st ts R w) {A B : Key} (hA : st.isHand A) (hB : st.isHand B) : Rel w0 st ts (R.mv A B) w := by
  obtain ⟨f1, f2, f3⟩ := Cx.mv_facts (A := A) (B := B) h.zd h.lo h.lt
  exact h.handsStep (fun K hK => R.mv_off (fun e => hK (isHand_under e hA)) (fun e => hK (isHand_under e hB))) (fun _ => id) rfl h.hh (fun _ _ _ => id) (h.inj.mv _ _) f1 f2 f3 h.zlt h.bel

theorem VR.mvHands {w0 : Base} {w : World} {st : St} {ts : List (Array Value)} {R : Cx} (h : Rel w0 st ts R w) {A B : Key} (hA : st.isHand A) (hB : st.isHand B) {v : AV} {cs : List Value} (hv : VR R v A cs) : VR (R.mv A B) v B cs := by
  refine VR.mv_self (A := A) (B := B) (hA.1.trans hB.1.symm) (q := []) ?_ hv
  intro T _ e hT
  rw [isHand_fl h (isHand_under hT hB)] at e; simp at e

theorem VR.keptHands {w0 : Base} {w : World} {st : St} {ts : List (Array Value)} {R : Cx} (h : Rel w0 st ts R w) {A B K : Key} (hA : st.isHand A) (hB : st.isHand B) {v : AV} {cs : List Value} (h1 : K.apart A) (h2 : K.apart B) (hv : VR R v K cs) : VR (R.mv A B) v K cs := by
  refine VR.mv_other (AV.le_refl _) h1 h2 ?_ hv
  intro T _ e hT
  rw [isHand_fl h (isHand_under hT hB)] at e; simp at e

theorem VR.frameHands {w0 : Base} {w : World} {st : St} {ts : List (Array Value)} {R R' : Cx} (h : Rel w0 st ts R w) {K : Key} (hZ : ∀ b, R.Z b → R'.Z b) (hfl : R'.fl = R.fl) (hρh : ∀ T : Key, ¬ st.isHand T → R'.ρ T = R.ρ T) (hρ : ∀ T, T.under K → R'.ρ T = R.ρ T)
    (hhp : ∀ (b : Nat) (o : Obj), R.h[b]? = some o → R'.h[b]? = some o) {v : AV} {cs : List Value} (hv : VR R v K cs) : VR R' v K cs := by
  refine VR.frame (AV.le_refl _) ⟨hZ, fun b o _ => hhp b o, hρ, fun T b n o _ _ => hhp b o⟩ ?_ hv
  intro T _ e
  refine ⟨by rw [hfl]; exact e, .inr ⟨hρh T ?_, fun b n arr el _ e => ⟨arr, hhp b _ e, rfl⟩⟩⟩
  intro hT; rw [isHand_fl h hT] at e; simp at e

theorem zeroAV_size (nest : Bool) : ∀ s : Sh, (zeroAV nest s).size = s.size := by
  intro s
  induction s with
  | pair a b iha ihb => simp only [zeroAV, AV.size, iha, ihb, Sh.size]
  | _ => rfl

/-- A zero value at a hand's key. -/
theorem Rel.zeroAt {w0 : Base} {w : World} {st : St} {ts : List (Array Value)} {R : Cx} (h : Rel w0 st ts R w) {B : Key} (hB : st.isHand B) (nest : Bool) (s : Sh) :
    ∃ R', Rel w0 st ts R' w ∧ VR R' (zeroAV nest s) B (zeroCells s) ∧ (∀ K v cs, K.apart B → VR R v K cs → VR R' v K cs) := by
  let R' : Cx := { R with ρ := fun K => if K.under B then some .nil else R.ρ K }
  have some_blk : ∀ {K b n}, R'.ρ K = some (.blk b n) → R.ρ K = some (.blk b n) := by
    intro K b n e
    simp only [R'] at e
    split at e
    · simp at e
    · exact e
  have h1 := h.handsStep (R' := R') (w' := w) (fun K hK => by simp only [R', if_neg (fun e => hK (isHand_under e hB))]) (fun _ => id) rfl h.hh (fun _ _ _ => id)
    (fun K K' b n m e1 e2 => h.inj _ _ _ _ _ (some_blk e1) (some_blk e2)) (fun b hb K n e => h.zd b hb K n (some_blk e)) (fun K b n e => h.lo K b n (some_blk e)) (fun K b n e => h.lt K b n (some_blk e)) h.zlt h.bel
  refine ⟨R', h1, ?_, ?_⟩
  · have key : ∀ (s : Sh) (K : Key), K.under B → VR R' (zeroAV nest s) K (zeroCells s) := by
      intro s
      induction s with
      | pair a b iha ihb =>
        intro K hK
        have : (zeroAV nest a).size = a.size := zeroAV_size nest a
        refine ⟨_, _, rfl, iha _ (Key.under_trans (Key.child_under _ _) hK), ?_⟩
        exact ihb _ (Key.under_trans (Key.child_under _ _) hK)
      | sl e ih =>
        intro K hK
        simp only [zeroAV, zeroCells, VR, OR]
        exact .inl ⟨by simp only [R', if_pos hK], trivial, trivial⟩
      | unit => intro K hK; exact rfl
      | _ => intro K hK; exact DR_zero _
    exact key s _ (Key.under_refl _)
  · intro K v cs hK hv
    exact VR.frameHands (R' := R') h (fun _ => id) rfl (fun T hT => by simp only [R', if_neg (fun e => hT (isHand_under e hB))]) (fun T hT => by simp only [R', if_neg (hK T hT)]) (fun _ _ => id) hv

/-! ### Parts taken -/

def PartsR (R : Cx) (st : St) : Nat → List (Nat × Value) → List (Nat × AV) → Prop
  | _, [], [] => True
  | j, (i, u) :: r, (i', v) :: vs => i' = i ∧ SV R v (st.hand j) u ∧ PartsR R st (j + 1) r vs
  | _, _, _ => False

theorem PartsR.mono {R R' : Cx} {st : St} : ∀ {us : List (Nat × Value)} {vs : List (Nat × AV)} {j : Nat}, (∀ i v u, j ≤ i → SV R v (st.hand i) u → SV R' v (st.hand i) u) → PartsR R st j us vs → PartsR R' st j us vs := by
  intro us
  induction us with
  | nil => intro vs j _ h; cases vs <;> exact h
  | cons u us ih =>
    intro vs j hk h
    cases vs with
    | nil => exact h.elim
    | cons v vs =>
      obtain ⟨h1, h2, h3⟩ := h
      exact ⟨h1, hk _ _ _ (Nat.le_refl _) h2, ih (fun i v u hi => hk i v u (by omega)) h3⟩

theorem takeParts_ok {C : Orc} {a : Act} {w0 : Base} {w : World} {ts : List (Array Value)} : ∀ (ps : List (Nat × Operand)) (j : Nat) {st : St} {R : Cx} (h : Rel w0 st (a.tmps :: ts) R w) {k : List (Nat × AV) → St → Prop}, (takeParts ps).wp C st k →
    ∃ vs st1 R1, k vs st1 ∧ Rel w0 st1 (a.tmps :: ts) R1 w ∧ st1.length = st.length ∧ (∀ i, st1.hand i = st.hand i) ∧ (∀ i v u, i < j → SV R v (st.hand i) u → SV R1 v (st.hand i) u) ∧ PartsR R1 st1 j (ps.map fun x => (x.1, a.eval x.2)) vs := by
  intro ps
  induction ps with
  | nil => intro j st R h k hw; exact ⟨[], st, R, hw, h, rfl, fun _ => rfl, fun _ _ _ _ => id, trivial⟩
  | cons p ps ih =>
    intro j st R h k hw
    obtain ⟨i, x⟩ := p
    simp only [takeParts, M.wp_bind] at hw
    obtain ⟨v, st1, R1, hk, h1, hl, hh, hkept, hv⟩ := takeOp_ok h hw j
    replace hk := ih (j + 1) h1 hk
    obtain ⟨vs, st2, R2, hk, h2, hl2, hh2, hkept2, hps⟩ := hk
    refine ⟨_, st2, R2, hk, h2, hl2.trans hl, fun i => (hh2 i).trans (hh i), ?_, rfl, ?_, hps⟩
    · intro i v u hi hv
      have := hkept i v u (by omega) hv
      rw [← hh i] at this
      have := hkept2 i v u (by omega) this
      rwa [hh i] at this
    · rw [hh2 j]
      rw [← hh j] at hv
      exact hkept2 j v _ (by omega) hv

end Go.Proofs.Ytlndfmmigndgeaa.Ev

/- Structs built of parts. -/
namespace Go.Proofs.Ytlndfmmigndgeaa.Ev
open Go
set_option linter.unusedSimpArgs false
set_option linter.unusedVariables false

/-- One part put in. -/
theorem fill_cons (place : Nat → Option (Nat × Nat)) (cells : Array Value) (i : Nat) (v : Value) (r : List (Nat × Value)) {off : Nat} (hp : place i = some (off, v.cells.toList.length)) (hb : off + v.cells.toList.length ≤ cells.toList.length) :
    Instr.fill place cells ((i, v) :: r) = Instr.fill place (repl cells.toList off v.cells.toList).toArray r := by
  have hvs : v.cells.toList.length = v.cells.size := by simp
  have hcs : cells.toList.length = cells.size := by simp
  have e : v.cells.zipIdx.foldl (fun cs (x : Value × Nat) => cs.setIfInBounds (off + x.2) x.1) cells = (repl cells.toList off v.cells.toList).toArray := by
    rw [← Array.foldl_toList, Array.toList_zipIdx]
    obtain ⟨g1, g2⟩ := Great.foldl_set off v.cells.toList 0 cells
    apply Array.ext_getElem?
    intro k
    rw [g2 k]
    simp only [Nat.add_zero, List.getElem?_toArray, repl, List.append_assoc]
    by_cases h1 : off ≤ k
    · by_cases h2 : k < off + v.cells.toList.length
      · rw [if_pos ⟨h1, h2, by omega⟩]
        rw [List.getElem?_append_right (by simp only [List.length_take]; omega), List.getElem?_append_left (by simp only [List.length_take]; omega)]
        congr 1
        simp only [List.length_take]; omega
      · rw [if_neg (by omega)]
        rw [List.getElem?_append_right (by simp only [List.length_take]; omega), List.getElem?_append_right (by simp only [List.length_take]; omega), List.getElem?_drop]
        rw [← Array.getElem?_toList]
        congr 1
        simp only [List.length_take]; omega
    · rw [if_neg (by omega), List.getElem?_append_left (by simp only [List.length_take]; omega), List.getElem?_take, if_pos (by omega), Array.getElem?_toList]
  conv => lhs; unfold Instr.fill
  simp only [hp]
  rw [← e]
  have hng : ¬ ((decide (v.cells.size ≠ v.cells.toList.length) || decide (off + v.cells.size > cells.size)) = true) := by
    simp only [Bool.or_eq_true, decide_eq_true_eq, not_or]; omega
  rw [if_neg hng]

/-- The places of a struct's fields. -/
theorem fldB_places {P : Program} {E : Env} (hE : EnvOk P E) : ∀ {s : Sh} {fs : List Field} {off : Nat}, fldB P E fs s off = true →
    ∃ pl, fs.mapM (fun f => (P.info? f.type).map fun i => (f.offset, i.size)) = some pl := by
  intro s
  induction s with
  | pair a b iha ihb =>
    intro fs off h
    cases fs with
    | nil => simp [fldB] at h
    | cons f fs =>
      simp only [fldB, Bool.and_eq_true, beq_iff_eq, bne_iff_ne, ne_eq] at h
      obtain ⟨⟨⟨h1, h2⟩, h3⟩, h4⟩ := h
      obtain ⟨pl, hpl⟩ := ihb h4
      obtain ⟨i, z, e1, e2, _⟩ := tyB_info (hE.sh _ _ h2)
      exact ⟨_, by simp [List.mapM_cons, e1, hpl]; rfl⟩
  | unit => intro fs off h; cases fs <;> simp [fldB] at h ⊢
  | _ => intro fs off h; cases fs <;> simp [fldB] at h

theorem mapM_get {α β : Type} {f : α → Option β} : ∀ {l : List α} {r : List β}, l.mapM f = some r → ∀ (m : Nat) (x : α), l[m]? = some x → r[m]? = f x := by
  intro l
  induction l with
  | nil => intro r _ m x hx; simp at hx
  | cons y l ih =>
    intro r h m x hx
    simp only [List.mapM_cons, Option.bind_eq_bind, Option.pure_def, Option.bind_eq_some_iff, Option.some.injEq] at h
    obtain ⟨z, hz, r', hr, rfl⟩ := h
    cases m with
    | zero => simp only [List.getElem?_cons_zero, Option.some.injEq] at hx; subst hx; simp [hz]
    | succ m => simp only [List.getElem?_cons_succ] at hx ⊢; exact ih hr m x hx

theorem fieldV_eq {nest : Bool} {a : Sh} {v x : AV} (h : fieldV nest a v = some x) : (v = .nils ∧ ∃ e, a = .sl e ∧ x = zeroAV nest (.sl e)) ∨ (x = v ∧ v.size = a.size ∧ v.isBad = false) := by
  unfold fieldV at h
  split at h
  · split at h
    · simp only [Option.some.injEq] at h; exact .inl ⟨rfl, _, rfl, h.symm⟩
    · simp at h
  · split at h
    · rename_i hc; simp only [Option.some.injEq] at h; exact .inr ⟨h.symm, hc⟩
    · simp at h

theorem hand_child_apart {st : St} {K : Key} {m : Nat} (hK : K.s = (st.hand 0).s) (hm : 1 ≤ m) : K.apart (st.hand m) :=
  Key.apart_reg (by rintro ⟨_, h, _⟩; simp [St.hand] at h hK; omega)

/-- The fields of a struct, out of hands 'j' and on, at a key of hand 0. -/
theorem fields_ok {P : Program} {E : Env} (hE : EnvOk P E) {w0 : Base} {w : World} {st : St} {ts : List (Array Value)} : ∀ (s : Sh) (i : Nat) (us : List (Nat × Value)) (vs : List (Nat × AV)) (j : Nat) (K : Key) (R : Cx) (u : AV) (fs : List Field) (off : Nat) (pre : List Value) (place : Nat → Option (Nat × Nat)) (cells : Array Value),
    Rel w0 st ts R w → st.isHand K → K.s = (st.hand 0).s → 1 ≤ j → PartsR R st j us vs → fields E.nest s i vs = some u → fldB P E fs s off = true → pre.length = off → cells.toList = pre ++ zeroCells s →
    (∀ (m : Nat) (f : Field) (t : TypeInfo), fs[m]? = some f → P.info? f.type = some t → place (i + m) = some (f.offset, t.size)) →
    ∃ R' c cells', Rel w0 st ts R' w ∧ VR R' u K c ∧ Instr.fill place cells us = some cells' ∧ cells'.toList = pre ++ c ∧ u.size = s.size ∧
      (∀ (K' : Key) v cs, K'.apart K → (∀ m, j ≤ m → K'.apart (st.hand m)) → VR R v K' cs → VR R' v K' cs) := by
  intro s
  induction s with
  | pair a b iha ihb =>
    intro i us vs j K R u fs off pre place cells h hK hKs hj hps hu hb hpre hcells hplace
    cases fs with
    | nil => simp [fldB] at hb
    | cons f fs =>
    simp only [fldB, Bool.and_eq_true, beq_iff_eq, bne_iff_ne, ne_eq] at hb
    obtain ⟨⟨⟨hb1, hb2⟩, hb3⟩, hb4⟩ := hb
    obtain ⟨ti, z, hti, htsz, _⟩ := tyB_info (hE.sh _ _ hb2)
    have hzl : (zeroCells a).length = a.size := zeroCells_length a
    have hplace0 : place i = some (f.offset, ti.size) := by simpa using hplace 0 f ti rfl hti
    have hplace' : ∀ (m : Nat) (f : Field) (t : TypeInfo), fs[m]? = some f → P.info? f.type = some t → place (i + 1 + m) = some (f.offset, t.size) := by
      intro m g t hg ht
      have := hplace (m + 1) g t (by simpa using hg) ht
      rw [show i + 1 + m = i + (m + 1) by omega]; exact this
    have hKl : st.isHand (K.child .l) := isHand_under (Key.child_under _ _) hK
    have hKr : st.isHand (K.child (.r a.size)) := isHand_under (Key.child_under _ _) hK
    have hlr : (K.child .l).apart (K.child (.r a.size)) := Key.child_apart (by simp)
    -- a field that is not told
    have zero : ∀ {y : AV}, fields E.nest b (i + 1) vs = some y → u = .pair (zeroAV E.nest a) y → ∃ R' c cells', Rel w0 st ts R' w ∧ VR R' u K c ∧ Instr.fill place cells us = some cells' ∧ cells'.toList = pre ++ c ∧ u.size = (Sh.pair a b).size ∧
        (∀ (K' : Key) v cs, K'.apart K → (∀ m, j ≤ m → K'.apart (st.hand m)) → VR R v K' cs → VR R' v K' cs) := by
      intro y hy hue
      subst hue
      obtain ⟨R1, c1, cells1, r1, r2, r3, r4, r5, r6⟩ := ihb (i + 1) us vs j (K.child (.r a.size)) R y fs (off + a.size) (pre ++ zeroCells a) place cells h hKr hKs hj hps hy hb4 (by simp [hpre, hzl]) (by rw [hcells]; simp [zeroCells]) hplace'
      obtain ⟨R2, z1, z2, z3⟩ := r1.zeroAt hKl E.nest a
      refine ⟨R2, zeroCells a ++ c1, cells1, z1, ⟨_, _, rfl, z2, ?_⟩, r3, by rw [r4]; simp, by simp only [AV.size, zeroAV_size, r5, Sh.size], ?_⟩
      · rw [zeroAV_size]; exact z3 _ _ _ (Key.apart_symm hlr) r2
      · intro K' v cs h1 h2 hv
        exact z3 _ _ _ (fun T hT hT' => h1 T hT (Key.under_trans hT' (Key.child_under _ _))) (r6 K' v cs (fun T hT hT' => h1 T hT (Key.under_trans hT' (Key.child_under _ _))) h2 hv)
    cases vs with
    | nil =>
      simp only [fields] at hu
      split at hu
      · rename_i y hy; simp only [Option.some.injEq] at hu; exact zero hy hu.symm
      · simp at hu
    | cons p vs =>
      obtain ⟨i', v⟩ := p
      simp only [fields] at hu
      split at hu
      · rename_i hii
        subst hii
        split at hu
        · rename_i x y hx hy
          simp only [Option.some.injEq] at hu
          subst hu
          cases us with
          | nil => exact hps.elim
          | cons q us =>
          obtain ⟨i2, w1⟩ := q
          obtain ⟨rfl, hv, hps⟩ := hps
          -- the value at hand j
          have hval : (∃ e, a = .sl e ∧ v = .nils ∧ x = zeroAV E.nest (.sl e) ∧ w1.cells.toList = zeroCells a) ∨ (x = v ∧ v.size = a.size ∧ v.isBad = false) := by
            rcases fieldV_eq hx with ⟨rfl, e, rfl, rfl⟩ | hh
            · have hv : [w1] = [Value.slice none 0 0] := hv
              simp only [List.cons.injEq, and_true] at hv
              subst hv
              exact .inl ⟨e, rfl, rfl, rfl, rfl⟩
            · exact .inr hh
          have hwl : w1.cells.toList.length = a.size := by
            rcases hval with ⟨e, rfl, _, _, e2⟩ | ⟨_, e1, e2⟩
            · rw [e2]; rfl
            · rw [VR.length (SV_cells e2 hv), e1]
          have hfill : Instr.fill place cells ((i', w1) :: us) = Instr.fill place (pre ++ w1.cells.toList ++ zeroCells b).toArray us := by
            rw [fill_cons place cells i' w1 us (off := f.offset) (by rw [hplace0, htsz, hwl]) (by rw [hcells, hwl, hb1, ← hpre]; simp [zeroCells, hzl])]
            congr 2
            rw [hcells, hb1, ← hpre]
            have := repl_right (c1 := pre) (c2 := zeroCells (.pair a b)) (c := w1.cells.toList) (off := 0)
            rw [Nat.add_zero] at this
            rw [this, List.append_assoc]
            congr 1
            simp only [zeroCells]
            rw [repl_left (by rw [hwl, hzl]; omega)]
            congr 1
            simp [repl, hwl, ← hzl]
          obtain ⟨R1, c1, cells1, r1, r2, r3, r4, r5, r6⟩ := ihb (i' + 1) us vs (j + 1) (K.child (.r a.size)) R y fs (off + a.size) (pre ++ w1.cells.toList) place (pre ++ w1.cells.toList ++ zeroCells b).toArray h hKr hKs (by omega) hps hy hb4 (by simp [hpre, hwl]) (by simp) hplace'
          rcases hval with ⟨e, rfl, rfl, rfl, e2⟩ | ⟨rfl, e1, e2⟩
          · obtain ⟨R2, z1, z2, z3⟩ := r1.zeroAt hKl E.nest (.sl e)
            refine ⟨R2, zeroCells (.sl e) ++ c1, cells1, z1, ⟨_, _, rfl, z2, ?_⟩, by rw [hfill]; exact r3, by rw [r4, e2]; simp, by simp only [AV.size, zeroAV_size, r5, Sh.size], ?_⟩
            · rw [zeroAV_size]; exact z3 _ _ _ (Key.apart_symm hlr) r2
            · intro K' v cs h1 h2 hv
              exact z3 _ _ _ (fun T hT hT' => h1 T hT (Key.under_trans hT' (Key.child_under _ _))) (r6 K' v cs (fun T hT hT' => h1 T hT (Key.under_trans hT' (Key.child_under _ _))) (fun m hm => h2 m (by omega)) hv)
          · have hvj : VR R1 x (st.hand j) w1.cells.toList := r6 _ _ _ (Key.apart_symm (hand_child_apart (K := K.child (.r a.size)) hKs hj)) (fun m hm => hand_apart st (by omega)) (SV_cells e2 hv)
            have hA := isHand_hand st j
            refine ⟨R1.mv (st.hand j) (K.child .l), w1.cells.toList ++ c1, cells1, r1.mvHands hA hKl, ⟨_, _, rfl, VR.mvHands r1 hA hKl hvj, ?_⟩, by rw [hfill]; exact r3, by rw [r4]; simp, by simp only [AV.size, e1, r5, Sh.size], ?_⟩
            · rw [e1]; exact VR.keptHands r1 hA hKl (hand_child_apart (K := K.child (.r a.size)) hKs hj) (Key.apart_symm hlr) r2
            · intro K' v cs h1 h2 hv
              exact VR.keptHands r1 hA hKl (h2 j (Nat.le_refl _)) (fun T hT hT' => h1 T hT (Key.under_trans hT' (Key.child_under _ _))) (r6 K' v cs (fun T hT hT' => h1 T hT (Key.under_trans hT' (Key.child_under _ _))) (fun m hm => h2 m (by omega)) hv)
        · simp at hu
      · split at hu
        · rename_i y hy; simp only [Option.some.injEq] at hu; exact zero hy hu.symm
        · simp at hu
  | unit =>
    intro i us vs j K R u fs off pre place cells h hK hKs hj hps hu hb hpre hcells hplace
    cases vs with
    | nil =>
      simp only [fields, Option.some.injEq] at hu
      subst hu
      cases us with
      | nil => exact ⟨R, [], cells, h, rfl, rfl, by rw [hcells]; rfl, rfl, fun _ _ _ _ _ => id⟩
      | cons => exact hps.elim
    | cons p vs => simp [fields] at hu
  | _ =>
    intro i us vs j K R u fs off pre place cells h hK hKs hj hps hu
    cases vs <;> simp [fields] at hu

theorem OpOk.build {P : Program} {E : Env} (hE : EnvOk P E) {C : Orc} {o : Oper} {t : TypeId} {ps : Array (Nat × Operand)} (ho : o.op = .build t ps) : OpOk P E C o := by
  intro w0 st a ts R w k next Q h hw hn
  simp only [evOp, ho] at hw
  split at hw
  · rename_i s hs
    rw [M.wp_bind] at hw
    obtain ⟨vs, st1, R1, hk, h1, hl, hh, _, hps⟩ := takeParts_ok _ 1 h hw
    rw [M.wp_bind] at hk
    replace hk := ofOption_ok hk
    obtain ⟨u, hu, hk⟩ := hk
    have hagg : s.isAgg = true := by
      cases s <;> first | rfl | (cases vs <;> simp [fields] at hu)
    obtain ⟨fs, hund, hb⟩ := tyB_fld (hE.sh _ _ hs) hagg
    obtain ⟨i, z, hi, hisz, hz, hzc⟩ := tyB_info (hE.sh _ _ hs)
    have hzc' : ∃ cs, z = .agg cs ∧ cs.toList = zeroCells s := by
      rcases hzc with ⟨_, cs, e1, e2⟩ | ⟨e, _⟩
      · exact ⟨cs, e1, e2⟩
      · rw [hagg] at e; simp at e
    clear hzc
    obtain ⟨zc, rfl, hzc⟩ := hzc'
    obtain ⟨pl, hpl⟩ := fldB_places hE hb
    have hplget : ∀ (m : Nat) (f : Field) (t : TypeInfo), fs.toList[m]? = some f → P.info? f.type = some t → pl.toArray[0 + m]? = some (f.offset, t.size) := by
      intro m f t hf ht
      have := mapM_get hpl m f hf
      rw [ht] at this
      simpa using this
    obtain ⟨R2, c, cells', r1, r2, r3, r4, r5, r6⟩ := fields_ok hE s 0 _ vs 1 (st1.hand 0) R1 u fs.toList 0 [] (pl.toArray[·]?) zc h1 (isHand_hand _ _) rfl (Nat.le_refl _) hps hu hb rfl (by simpa using hzc) hplget
    have hbuilt : P.built t ((ps.map fun (i, x) => (i, a.eval x)).toList) = some cells' := by
      unfold Program.built
      rw [hi, hund]
      simp only [hz, hpl]
      rw [Array.toList_map]
      exact r3
    have hua : u.isAgg = true := by
      cases s <;> simp [Sh.isAgg] at hagg
      · cases vs <;> simp [fields] at hu; subst hu; rfl
      · cases vs with
        | nil => simp only [fields] at hu; split at hu <;> simp at hu; subst hu; rfl
        | cons p vs =>
          obtain ⟨i', v⟩ := p
          simp only [fields] at hu
          split at hu
          · split at hu <;> simp at hu; subst hu; rfl
          · split at hu <;> simp at hu; subst hu; rfl
    have hsv : SV R2 u (st1.hand 0) (.agg cells') := by
      have hu0 : u ≠ .undef := by rintro rfl; simp [AV.isAgg] at hua
      have hut : ∀ y, u ≠ .tup y := by rintro y rfl; simp [AV.isAgg] at hua
      rw [SV_VV hut, VV_iff hu0, if_pos hua]
      exact ⟨_, rfl, by rw [r4]; exact r2⟩
    refine OpOk.value (j := 0) (v := .agg cells') ?_ r1 hk hsv hn
    simp only [execOp, ho]
    simp only [Sem.run_bind, run_build w t _ cells' hbuilt, Result.andThen_ok]
    rfl
  · exact OpOk.buildArr hE ho h hw hn

end Go.Proofs.Ytlndfmmigndgeaa.Ev

/- Slices made: literals and 'make'. -/
namespace Go.Proofs.Ytlndfmmigndgeaa.Ev
open Go
set_option linter.unusedSimpArgs false
set_option linter.unusedVariables false

theorem OR_fz {R : Cx} {s : Sh} {K : Key} {x : s.den} {cs : List Value} : OR R s .fz K x cs ↔ DR R.Z R.h s x cs := by
  cases s <;> simp only [OR]

/-- What is owned may count as frozen. -/
theorem OR.freeze {R : Cx} {Z' : Nat → Prop} : ∀ {s : Sh} {o : Ow} {K : Key} {x : s.den} {cs : List Value}, (∀ b, R.Z b → Z' b) → (∀ T b n, T.under K → R.ρ T = some (.blk b n) → Z' b) → OR R s o K x cs → DR Z' R.h s x cs := by
  intro s
  induction s with
  | int | bool | str | unit | fn | ptr => intro o K x cs hz hb h; simp only [OR] at h; exact h.frame hz (fun _ _ _ => id)
  | pair a b iha ihb =>
    intro o K x cs hz hb h
    cases o with
    | pr o1 o2 =>
      simp only [OR] at h
      obtain ⟨c1, c2, rfl, h1, h2⟩ := h
      exact ⟨c1, c2, rfl, iha hz (fun T b n hT => hb T b n (Key.under_trans hT (Key.child_under _ _))) h1, ihb hz (fun T b n hT => hb T b n (Key.under_trans hT (Key.child_under _ _))) h2⟩
    | fz => simp only [OR] at h; exact h.frame hz (fun _ _ _ => id)
    | ow o => simp only [OR] at h; exact h.frame hz (fun _ _ _ => id)
  | sl e ih =>
    intro o K l cs hz hb h
    cases o with
    | ow o =>
      simp only [OR] at h
      rcases h with ⟨_, rfl, rfl⟩ | ⟨b, cap, arr, el, hρ, rfl, hl, hcap, hhp, hs⟩
      · exact .inl ⟨rfl, none, 0, rfl⟩
      · refine .inr ⟨b, 0, cap, arr, el, _, rfl, hl, hb K b _ (Key.under_refl _) hρ, hhp, ?_⟩
        simp only [List.drop_zero]
        generalize arr.toList = cs at hs
        clear hl hρ
        generalize 0 = i at hs
        induction l generalizing cs i with
        | nil => trivial
        | cons x xs ihl =>
          obtain ⟨c, r, rfl, hx, hr⟩ := hs
          exact ⟨c, r, rfl, ih hz (fun T b n hT => hb T b n (Key.under_trans hT (Key.child_under _ _))) hx, ihl _ _ hr⟩
    | fz => simp only [OR] at h; exact h.frame hz (fun _ _ _ => id)
    | pr o1 o2 => simp only [OR] at h; exact h.frame hz (fun _ _ _ => id)

/-- Everything in hands is frozen. -/
def Cx.freezeHands (R : Cx) (st : St) : Cx :=
  { R with ρ := fun K => if K.lv = st.length - 1 ∧ (st.headD []).length ≤ K.s ∧ K.bx = false then none else R.ρ K,
           Z := fun b => R.Z b ∨ ∃ K n, st.isHand K ∧ R.ρ K = some (.blk b n) }

theorem Rel.freezeHands {w0 : Base} {w : World} {st : St} {ts : List (Array Value)} {R : Cx} (h : Rel w0 st ts R w) : Rel w0 st ts (R.freezeHands st) w := by
  have sb : ∀ {K b n}, (R.freezeHands st).ρ K = some (.blk b n) → ¬ st.isHand K ∧ R.ρ K = some (.blk b n) := by
    intro K b n e
    simp only [Cx.freezeHands] at e
    split at e
    · simp at e
    · rename_i hc; exact ⟨hc, e⟩
  refine h.handsStep (R' := R.freezeHands st) (w' := w) (fun K hK => if_neg hK) (fun _ => .inl) rfl h.hh (fun _ _ _ => id) ?_ ?_ (fun K b n e => h.lo K b n (sb e).2) (fun K b n e => h.lt K b n (sb e).2) ?_ h.bel (fun b hb => hb.elim .inl (fun ⟨K, n, _, e⟩ => .inr (h.lo _ _ _ e)))
  · intro K K' b n m e1 e2; exact h.inj _ _ _ _ _ (sb e1).2 (sb e2).2
  · rintro b (hb | ⟨K', n', hK', e'⟩) K n e
    · exact h.zd b hb K n (sb e).2
    · have := h.inj _ _ _ _ _ e' (sb e).2
      exact (sb e).1 (this ▸ hK')
  · rintro b (hb | ⟨K', n', hK', e'⟩)
    · exact h.zlt b hb
    · exact h.lt _ _ _ e'

/-- A new array, owned at a hand's key. -/
theorem Rel.ownNew {w0 : Base} {w : World} {st : St} {ts : List (Array Value)} {R : Cx} (h : Rel w0 st ts R w) {K : Key} (hK : st.isHand K) {e : Sh} {o : Ow} {l : List e.den} {cells : Array Value} (el : TypeId) {cap : Nat} (hl : l.length ≤ cap) (hcap : cap * e.size ≤ cells.size)
    (hs : SegI (fun i x c => OR R e o (K.child (.ix i e.size)) x c) 0 l cells.toList) :
    ∃ R', Rel w0 st ts R' (w.alloc (.cells cells el)) ∧ VR R' (.own e o l) K [.slice (some ⟨w.heap.size, 0, none⟩) l.length cap] ∧ (∀ K' v cs, (¬ K.under K') → VR R v K' cs → VR R' v K' cs) := by
  let R' : Cx := { R with ρ := fun T => if T = K then some (.blk w.heap.size l.length) else R.ρ T, h := (w.alloc (.cells cells el)).heap }
  have hold : ∀ (b : Nat) (o : Obj), R.h[b]? = some o → R'.h[b]? = some o := by intro b o e; rw [h.hh] at e; exact heap_alloc_old e
  have hsz : (w.alloc (.cells cells el)).heap.size = w.heap.size + 1 := by show (w.heap.push _).size = _; simp
  have sb : ∀ {T b n}, R'.ρ T = some (.blk b n) → (T = K ∧ b = w.heap.size) ∨ (R.ρ T = some (.blk b n) ∧ b < w.heap.size) := by
    intro T b n e
    simp only [R'] at e
    split at e
    · rename_i hT; simp only [Option.some.injEq, Nd.blk.injEq] at e; exact .inl ⟨hT, e.1.symm⟩
    · exact .inr ⟨e, h.lt _ _ _ e⟩
  have hw0 : w0.heap.size ≤ w.heap.size := h.bel.size
  have h1 : Rel w0 st ts R' (w.alloc (.cells cells el)) := by
    refine h.handsStep (R' := R') (fun T hT => ?_) (fun _ => id) rfl rfl (fun b o _ ho => heap_alloc_old ho) ?_ ?_ ?_ ?_ ?_ (h.bel.alloc hw0 _)
    · have : T ≠ K := by rintro rfl; exact hT hK
      simp only [R', if_neg this]
    · intro T T' b n m e1 e2
      rcases sb e1 with ⟨k1, b1⟩ | ⟨k1, b1⟩ <;> rcases sb e2 with ⟨k2, b2⟩ | ⟨k2, b2⟩
      · rw [k1, k2]
      · omega
      · omega
      · exact h.inj _ _ _ _ _ k1 k2
    · intro b hb T n e
      rcases sb e with ⟨_, b1⟩ | ⟨k1, _⟩
      · have := h.zlt b hb; omega
      · exact h.zd b hb T n k1
    · intro T b n e
      rcases sb e with ⟨_, b1⟩ | ⟨k1, _⟩
      · omega
      · exact h.lo _ _ _ k1
    · intro T b n e
      rcases sb e with ⟨_, b1⟩ | ⟨k1, b1⟩ <;> omega
    · intro b hb; have := h.zlt b hb; omega
  have fr : ∀ K' v cs, (¬ K.under K') → VR R v K' cs → VR R' v K' cs := by
    intro K' v cs hk hv
    refine VR.frameHands (R' := R') h (fun _ => id) rfl (fun T hT => ?_) (fun T hT => ?_) hold hv
    · have : T ≠ K := by rintro rfl; exact hT hK
      simp only [R', if_neg this]
    · have : T ≠ K := by rintro rfl; exact hk hT
      simp only [R', if_neg this]
  refine ⟨R', h1, ?_, fr⟩
  simp only [VR, OR]
  refine .inr ⟨w.heap.size, cap, cells, el, by simp only [R', if_true], rfl, hl, hcap, heap_alloc_new _ _, ?_⟩
  clear hl hcap h1
  have key : ∀ (l : List e.den) (i : Nat) (cs : List Value), SegI (fun i x c => OR R e o (K.child (.ix i e.size)) x c) i l cs → SegI (fun i x c => OR R' e o (K.child (.ix i e.size)) x c) i l cs := by
    intro l
    induction l with
    | nil => intro _ _ _; trivial
    | cons x xs ih =>
      intro i cs hs
      obtain ⟨c, r, rfl, h1, h2⟩ := hs
      refine ⟨c, r, rfl, ?_, ih _ _ h2⟩
      have := fr (K.child (.ix i e.size)) (unpack e o x) c ?_ ((unpack_VR _ _ _ _ _).2 h1)
      · exact (unpack_VR _ _ _ _ _).1 this
      · intro hu
        have := hu.2.2.2.length_le
        simp [Key.child] at this
        omega
  exact key _ _ _ hs

end Go.Proofs.Ytlndfmmigndgeaa.Ev

/- Slice literals and 'make', the operations. -/
namespace Go.Proofs.Ytlndfmmigndgeaa.Ev
open Go
set_option linter.unusedSimpArgs false
set_option linter.unusedVariables false

def ElemR (nest : Bool) (e : Sh) (v : AV) (x : e.den) : Prop := ∃ w : Pk, v.pack = some w ∧ ∃ h : w.s = e, w.low nest = e.low nest ∧ castDen h w.x = x

def ElemsR (nest : Bool) (e : Sh) : List AV → List e.den → Prop
  | [], [] => True
  | v :: vs, x :: xs => ElemR nest e v x ∧ ElemsR nest e vs xs
  | _, _ => False

theorem elems_wp {C : Orc} {nest : Bool} {e : Sh} : ∀ {vs : List AV} {st : St} {k : List e.den → St → Prop}, (elems nest e vs).wp C st k → ∃ l, k l st ∧ ElemsR nest e vs l := by
  intro vs
  induction vs with
  | nil => intro st k h; exact ⟨[], h, trivial⟩
  | cons v vs ih =>
    intro st k h
    simp only [elems] at h
    split at h
    · rename_i w hw
      split at h
      · rename_i hc
        rw [M.wp_bind] at h
        obtain ⟨l, hk, hl⟩ := ih h
        exact ⟨_, hk, ⟨w, hw, hc.1, hc.2, rfl⟩, hl⟩
      · exact h.elim
    · exact h.elim

theorem AV.pack_good {v : AV} {w : Pk} (h : v.pack = some w) : v.isBad = false := by cases v <;> first | rfl | (simp [AV.pack] at h)

theorem castDen_DR {Z : Nat → Prop} {h : Array Obj} {s e : Sh} (hs : s = e) {x : s.den} {c : List Value} : DR Z h s x c → DR Z h e (castDen hs x) c := by
  subst hs; exact id

theorem ElemsR.length {nest : Bool} {e : Sh} : ∀ {vs : List AV} {l : List e.den}, ElemsR nest e vs l → l.length = vs.length := by
  intro vs
  induction vs with
  | nil => intro l h; cases l <;> first | rfl | exact h.elim
  | cons v vs ih => intro l h; cases l with
    | nil => exact h.elim
    | cons x l => simp only [List.length_cons, ih h.2]

/-- Elements out of hands, frozen. -/
theorem elems_fz {w0 : Base} {w : World} {st : St} {ts : List (Array Value)} {R : Cx} (h : Rel w0 st ts R w) {e : Sh} : ∀ {us : List (Nat × Value)} {vs : List (Nat × AV)} {j : Nat} {l : List e.den},
    PartsR R st j us vs → ElemsR false e (vs.map (·.2)) l → ∀ (K : Key) (i : Nat), SegI (fun i x c => OR (R.freezeHands st) e (e.low false) (K.child (.ix i e.size)) x c) i l (us.flatMap fun u => u.2.cells.toList) := by
  intro us
  induction us with
  | nil =>
    intro vs j l hp he K i
    cases vs with
    | nil => cases l <;> first | trivial | exact he.elim
    | cons => exact hp.elim
  | cons u us ih =>
    intro vs j l hp he K i
    cases vs with
    | nil => exact hp.elim
    | cons v vs =>
      cases l with
      | nil => exact he.elim
      | cons x l =>
        obtain ⟨_, h2, h3⟩ := hp
        obtain ⟨⟨w', hw, hs, _, hx⟩, he⟩ := he
        refine ⟨_, _, rfl, ?_, ih h3 he K (i + 1)⟩
        have h2 := (pack_VR _ _ hw _ _).1 (SV_cells (AV.pack_good hw) h2)
        have := h2.freeze (Z' := (R.freezeHands st).Z) (fun b hb => .inl hb) (fun T b n hT hr => .inr ⟨T, n, isHand_under hT (isHand_hand st j), hr⟩)
        show OR (R.freezeHands st) e .fz _ x _
        rw [OR_fz, ← hx]
        exact castDen_DR hs this

/-- Elements out of hands, owned in turn. -/
theorem elems_ow {w0 : Base} {w : World} {st : St} {ts : List (Array Value)} {e : Sh} {K : Key} (hK : st.isHand K) (hKs : K.s = (st.hand 0).s) : ∀ {us : List (Nat × Value)} {vs : List (Nat × AV)} {j i : Nat} {l : List e.den} {R : Cx}, Rel w0 st ts R w → 1 ≤ j →
    PartsR R st j us vs → ElemsR true e (vs.map (·.2)) l → ∃ R', Rel w0 st ts R' w ∧ SegI (fun i x c => OR R' e (e.low true) (K.child (.ix i e.size)) x c) i l (us.flatMap fun u => u.2.cells.toList) ∧
      (∀ K' v cs, (∀ m, i ≤ m → K'.apart (K.child (.ix m e.size))) → (∀ m, j ≤ m → K'.apart (st.hand m)) → VR R v K' cs → VR R' v K' cs) := by
  intro us
  induction us with
  | nil =>
    intro vs j i l R h hj hp he
    cases vs with
    | nil => cases l <;> first | exact ⟨R, h, trivial, fun _ _ _ _ _ => id⟩ | exact he.elim
    | cons => exact hp.elim
  | cons u us ih =>
    intro vs j i l R h hj hp he
    cases vs with
    | nil => exact hp.elim
    | cons v vs =>
      cases l with
      | nil => exact he.elim
      | cons x l =>
        obtain ⟨_, h2, h3⟩ := hp
        obtain ⟨⟨w', hw, hs, hlow, hx⟩, he⟩ := he
        have hlow : w'.o = e.low true := by simpa [Pk.low] using hlow
        have hA := isHand_hand st j
        have hB : st.isHand (K.child (.ix i e.size)) := isHand_under (Key.child_under _ _) hK
        have hcs : (K.child (.ix i e.size)).s = (st.hand 0).s := hKs
        have h2 := SV_cells (AV.pack_good hw) h2
        let R1 := R.mv (st.hand j) (K.child (.ix i e.size))
        have h1 : Rel w0 st ts R1 w := h.mvHands hA hB
        have hv1 : VR R1 v.2 (K.child (.ix i e.size)) u.2.cells.toList := VR.mvHands h hA hB h2
        have kept : ∀ K' v cs, K'.apart (st.hand j) → K'.apart (K.child (.ix i e.size)) → VR R v K' cs → VR R1 v K' cs := fun K' v cs a b hv => VR.keptHands h hA hB a b hv
        have h3' : PartsR R1 st (j + 1) us vs := by
          refine PartsR.mono ?_ h3
          intro m v u hm hv
          refine SV.mv_other (hand_apart st (by omega)) (Key.apart_symm (hand_child_apart (K := K.child (.ix i e.size)) hcs (by omega))) ?_ hv
          intro T e hT; rw [isHand_fl h (isHand_under hT hB)] at e; simp at e
        obtain ⟨R2, r1, r2, r3⟩ := ih (i := i + 1) h1 (by omega : 1 ≤ j + 1) h3' he
        refine ⟨R2, r1, ⟨_, _, rfl, ?_, r2⟩, ?_⟩
        · have := r3 (K.child (.ix i e.size)) v.2 _ (fun m hm => Key.child_apart (by simp; omega)) (fun m hm => hand_child_apart (K := K.child (.ix i e.size)) hcs (by omega)) hv1
          have := (pack_VR _ _ hw _ _).1 this
          rw [hlow] at this
          rw [← hx]
          exact castDen_OR hs this
        · intro K' v cs a b hv
          exact r3 K' v cs (fun m hm => a m (by omega)) (fun m hm => b m (by omega)) (kept K' v cs (b j (Nat.le_refl _)) (a i (Nat.le_refl _)) hv)

theorem partsR_idx {R : Cx} {st : St} : ∀ {us : List (Nat × Value)} {vs : List (Nat × AV)} {j : Nat}, PartsR R st j us vs → us.map (·.1) = vs.map (·.1) := by
  intro us
  induction us with
  | nil => intro vs j h; cases vs <;> first | rfl | exact h.elim
  | cons u us ih => intro vs j h; cases vs with
    | nil => exact h.elim
    | cons v vs => simp only [List.map_cons, ih h.2.2, h.1]

theorem zip_of_idx : ∀ (us : List (Nat × Value)) (i : Nat), us.map (·.1) = List.range' i us.length → us = ((us.map (·.2)).zipIdx i).map fun x => (x.2, x.1) := by
  intro us
  induction us with
  | nil => intro i _; rfl
  | cons u us ih =>
    intro i h
    simp only [List.map_cons, List.length_cons, List.range'_succ, List.cons.injEq] at h
    simp only [List.map_cons, List.zipIdx_cons, List.cons.injEq]
    exact ⟨by rw [← h.1], ih (i + 1) h.2⟩

theorem partsR_sizes {R : Cx} {st : St} {nest : Bool} {e : Sh} : ∀ {us : List (Nat × Value)} {vs : List (Nat × AV)} {j : Nat} {l : List e.den}, PartsR R st j us vs → ElemsR nest e (vs.map (·.2)) l → ∀ v ∈ us.map (·.2), v.cells.size = e.size := by
  intro us
  induction us with
  | nil => intro vs j l _ _ v hv; simp at hv
  | cons u us ih =>
    intro vs j l hp he v hv
    cases vs with
    | nil => exact hp.elim
    | cons x vs =>
      cases l with
      | nil => exact he.elim
      | cons y l =>
        obtain ⟨_, h2, h3⟩ := hp
        obtain ⟨⟨w', hw, hs, _, _⟩, he⟩ := he
        simp only [List.map_cons, List.mem_cons] at hv
        rcases hv with rfl | hv
        · have := OR.length ((pack_VR _ _ hw _ _).1 (SV_cells (AV.pack_good hw) h2))
          rw [hs] at this
          simpa using this
        · exact ih h3 he v hv

theorem madeCells_eq (z : Array Value) : ∀ c : Nat, (madeCells z (c * z.size)).toList = (List.replicate c z.toList).flatten := by
  intro c
  induction c with
  | zero => simp [madeCells]
  | succ c ih =>
    have e : (c + 1) * z.size = z.size + c * z.size := by rw [Nat.succ_mul]; omega
    rw [List.replicate_succ, List.flatten_cons, ← ih, e]
    simp only [madeCells, Array.toList_map, Array.toList_range, List.range_add, List.map_append, List.map_map]
    congr 1
    · apply List.ext_getElem?
      intro i
      rw [List.getElem?_map]
      by_cases hi : i < z.size
      · rw [List.getElem?_range hi]
        simp [Nat.mod_eq_of_lt hi, hi]
      · rw [List.getElem?_eq_none (by simp; omega)]
        simp; omega
    · apply List.map_congr_left
      intro i _
      simp

theorem seg_replicate {α : Type} {Q : Nat → α → List Value → Prop} {d : α} {zc : List Value} (h : ∀ i, Q i d zc) : ∀ (n i c : Nat), n ≤ c → SegI Q i (List.replicate n d) (List.replicate c zc).flatten := by
  intro n
  induction n with
  | zero => intro i c _; trivial
  | succ n ih =>
    intro i c hc
    cases c with
    | zero => omega
    | succ c =>
      rw [List.replicate_succ, List.replicate_succ, List.flatten_cons]
      exact ⟨zc, _, rfl, h i, ih (i + 1) c (by omega)⟩

theorem OR_full_zero {R : Cx} : ∀ (s : Sh) (K : Key), (∀ T, T.under K → R.ρ T = some .nil) → OR R s s.full K s.dflt (zeroCells s) := by
  intro s
  induction s with
  | pair a b iha ihb =>
    intro K hK
    rw [Sh.full, Ow.pr'_OR]
    exact ⟨_, _, rfl, iha _ (fun T hT => hK T (Key.under_trans hT (Key.child_under _ _))), ihb _ (fun T hT => hK T (Key.under_trans hT (Key.child_under _ _)))⟩
  | sl e ih => intro K hK; simp only [Sh.full, OR, zeroCells]; exact .inl ⟨hK K (Key.under_refl _), rfl, trivial⟩
  | _ => intro K _; simp only [Sh.full]; exact OR_fz.2 (DR_zero _)

theorem OR_low_zero {R : Cx} (nest : Bool) (s : Sh) (K : Key) (hK : ∀ T, T.under K → R.ρ T = some .nil) : OR R s (s.low nest) K s.dflt (zeroCells s) := by
  cases nest with
  | true => exact OR_full_zero s K hK
  | false => exact OR_fz.2 (DR_zero s)

/-- Everything at a hand's key is nil. -/
theorem Rel.nilAt {w0 : Base} {w : World} {st : St} {ts : List (Array Value)} {R : Cx} (h : Rel w0 st ts R w) {B : Key} (hB : st.isHand B) :
    ∃ R', Rel w0 st ts R' w ∧ (∀ T, T.under B → R'.ρ T = some .nil) := by
  let R' : Cx := { R with ρ := fun K => if K.under B then some .nil else R.ρ K }
  have some_blk : ∀ {K b n}, R'.ρ K = some (.blk b n) → R.ρ K = some (.blk b n) := by
    intro K b n e
    simp only [R'] at e
    split at e
    · simp at e
    · exact e
  have h1 := h.handsStep (R' := R') (w' := w) (fun K hK => by simp only [R', if_neg (fun e => hK (isHand_under e hB))]) (fun _ => id) rfl h.hh (fun _ _ _ => id)
    (fun K K' b n m e1 e2 => h.inj _ _ _ _ _ (some_blk e1) (some_blk e2)) (fun b hb K n e => h.zd b hb K n (some_blk e)) (fun K b n e => h.lo K b n (some_blk e)) (fun K b n e => h.lt K b n (some_blk e)) h.zlt h.bel
  exact ⟨R', h1, fun T hT => by simp only [R', if_pos hT]⟩

theorem OpOk.makeSlice {P : Program} {E : Env} (hE : EnvOk P E) {C : Orc} {o : Oper} {t : TypeId} {xl xc : Operand} (ho : o.op = .makeSlice t xl xc) : OpOk P E C o := by
  intro w0 st a ts R w k next Q h hw hn
  simp only [evOp, ho] at hw
  split at hw
  · rename_i e hs
    rw [M.wp_bind] at hw
    obtain ⟨v, hk, ⟨K, hK, hv⟩, hq1, hq2⟩ := rawOp_ok h hw
    rw [M.wp_bind] at hk
    replace hk := rawOp_ok h hk
    obtain ⟨u, hk, ⟨K', hK', hu⟩, hq3, hq4⟩ := hk
    split at hk
    · rename_i n m
      obtain ⟨⟨g1, g2, g3, g4⟩, hk⟩ := hk
      have e1 := SV_int hv
      have e2 := SV_int hu
      obtain ⟨et, ie, u1, u2, u3, u4, u5, u7⟩ := sl_info hE hs
      obtain ⟨i', z, u6, _, hz, hzc⟩ := tyB_info (hE.sh _ _ u2)
      rw [u4] at u6
      cases u6
      have hzcells : z.cells.toList = zeroCells e := by
        rcases hzc with ⟨_, cs, rfl, e'⟩ | ⟨_, e'⟩
        · exact e'
        · have : z.oneCell' = true := (DR_zero (Z := fun _ => False) (h := #[]) e).one z (by rw [← e']; simp)
          rw [cells_one this]; exact e'
      have hzs : z.cells.size = ie.size := by rw [u5, ← zeroCells_length, ← hzcells]; simp
      have hb : (ie.bytes : Int) * m ≤ 281474976710656 := by rw [u7, Int.mul_comm]; exact Int.le_trans g3 (by decide)
      have h63 : m ≤ (9223372036854775807 : Int) := g4
      have hrun := run_make (P := P) w t et ie z u1 u4 hz .i64 .i64 n m g1 g2 hb h63
      have hrun' : (execOp a.eval o).run P w = .ok (.value (.slice (some ⟨w.heap.size, 0, none⟩) (Int.toNat n) (Int.toNat m))) (w.alloc (.cells (madeCells z.cells (Int.toNat m * ie.size)) et)) := by
        simp only [execOp, ho, e1, e2, Sem.run_bind, hrun, Result.andThen_ok]; rfl
      obtain ⟨R1, h1, hnil⟩ := h.nilAt (isHand_hand st 0)
      have hcells : (madeCells z.cells (Int.toNat m * ie.size)).toList = (List.replicate (Int.toNat m) (zeroCells e)).flatten := by
        rw [← hzs, madeCells_eq, hzcells]
      have hnm : Int.toNat n ≤ Int.toNat m := Int.toNat_le_toNat g2
      obtain ⟨R2, h2, hv2, _⟩ := h1.ownNew (isHand_hand st 0) et (e := e) (o := e.low E.nest) (l := List.replicate (Int.toNat n) e.dflt) (cells := madeCells z.cells (Int.toNat m * ie.size)) (cap := Int.toNat m) (by simpa using hnm) (by rw [size_madeCells, u5]; exact Nat.le_refl _)
        (by rw [hcells]; exact seg_replicate (Q := fun i x c => OR R1 e (e.low E.nest) ((st.hand 0).child (.ix i e.size)) x c) (fun i => OR_low_zero _ _ _ (fun T hT => hnil T (Key.under_trans hT (Key.child_under _ _)))) _ _ _ hnm)
      simp only [List.length_replicate] at hv2
      obtain ⟨st2, R4, hk, h4⟩ := dstT_ok h2 hk (j := 0) (val := .slice (some ⟨w.heap.size, 0, none⟩) (Int.toNat n) (Int.toNat m)) hv2
      simp only [Oper.wp, hrun', Oper.upon]
      exact hn _ st2 R4 _ (put_defers _ _ _) h4 hk
    · exact hk.elim
  · exact hw.elim

end Go.Proofs.Ytlndfmmigndgeaa.Ev

/- Slices taken out of their places. -/
namespace Go.Proofs.Ytlndfmmigndgeaa.Ev
open Go
set_option linter.unusedSimpArgs false
set_option linter.unusedVariables false

theorem Cx.ok_mv' {R : Cx} {A B K : Key} (b : AV) (h1 : ∀ T : Key, T.under K → ¬ T.under A) (h2 : K.apart B) (h3 : ∀ T : Key, R.fl T.lv T.s T.bx = true → ¬ T.under B) : R.Ok (R.mv A B) K b :=
  Cx.ok_mv b h1 h2 (fun T _ => h3 T)

/-- What is left when a part is taken. -/
theorem hKA {A K : Key} {i : Stp} {p : List Stp} (hK : A = K.ext (i :: p)) : ¬ K.under A := by
  intro hu
  have := hu.2.2.2.length_le
  rw [hK] at this
  simp [Key.ext] at this
  omega

theorem upd_take {C : Orc} {R : Cx} {A B : Key} (hB : ∀ T : Key, R.fl T.lv T.s T.bx = true → ¬ T.under B) : ∀ (path : List Stp) {a : AV} {K : Key} {cs : List Value} {st : St} {k : AV → St → Prop},
    (AV.upd .undef path a).wp C st k → A = K.ext path → K.apart B → VR R a K cs → ∃ u, k u st ∧ u.size = a.size ∧ (path ≠ [] → u.isAgg = a.isAgg ∧ u.isBad = false) ∧ VR (R.mv A B) u K cs := by
  intro path
  induction path with
  | nil =>
    intro a K cs st k hw hK hap ha
    simp only [AV.upd] at hw
    split at hw
    · rename_i hs
      have hl := VR.length ha
      rw [← hs] at hl
      obtain ⟨v, rfl⟩ := List.length_eq_one_iff.1 hl
      exact ⟨_, hw, hs, (fun e => absurd rfl e), v, rfl, ha.one v (by simp)⟩
    · exact hw.elim
  | cons i p ih =>
    intro a K cs st k hw hK hap ha
    have hK' : A = (K.child i).ext p := by rw [hK, Key.ext_cons]
    have hAu : A.under (K.child i) := hK' ▸ Key.ext_under _ _
    have hBc : ∀ j, (K.child j).apart B := fun j => Key.apart_sub hap (Key.child_under _ _)
    have other : ∀ j, j ≠ i → ∀ x : AV, R.Ok (R.mv A B) (K.child j) x := by
      intro j hj x
      exact Cx.ok_mv' x (fun T h1 h2 => Key.child_apart hj T h1 (Key.under_trans h2 hAu)) (hBc j) hB
    cases a with
    | pair x y =>
      obtain ⟨c1, c2, rfl, h1, h2⟩ := ha
      cases i with
      | l =>
        simp only [AV.upd, M.wp_bind] at hw
        obtain ⟨u, hk, us, _, hu⟩ := ih hw hK' (hBc _) h1
        obtain ⟨q1, q2⟩ := other (.r x.size) (by simp) y
        exact ⟨_, hk, by simp only [AV.size, us], fun _ => ⟨rfl, rfl⟩, _, _, rfl, hu, by rw [us]; exact VR.frame (AV.le_refl _) q1 (fun T hT => q2 T ((AV.hits_lv (K := K.child (.r x.size)) (K' := K.child (.r x.size)) rfl).1 hT)) h2⟩
      | r n =>
        simp only [AV.upd] at hw
        split at hw
        · rename_i hn
          subst hn
          rw [M.wp_bind] at hw
          obtain ⟨u, hk, us, _, hu⟩ := ih hw hK' (hBc _) h2
          obtain ⟨q1, q2⟩ := other .l (by simp) x
          exact ⟨_, hk, by simp only [AV.size, us], fun _ => ⟨rfl, rfl⟩, _, _, rfl, VR.frame (AV.le_refl _) q1 q2 h1, hu⟩
        · exact hw.elim
      | ix i z => exact hw.elim
    | d s x =>
      cases s with
      | pair s t =>
        obtain ⟨c1, c2, rfl, h1, h2⟩ := ha
        cases i with
        | l =>
          simp only [AV.upd, M.wp_bind] at hw
          obtain ⟨u, hk, us, _, hu⟩ := ih (a := .d s x.1) hw hK' (hBc _) h1
          exact ⟨_, hk, by simp only [AV.size, us, Sh.size], fun _ => ⟨rfl, rfl⟩, _, _, rfl, hu, h2⟩
        | r n =>
          simp only [AV.upd] at hw
          split at hw
          · rename_i hn
            subst hn
            rw [M.wp_bind] at hw
            obtain ⟨u, hk, us, _, hu⟩ := ih (a := .d t x.2) hw hK' (hBc _) h2
            exact ⟨_, hk, by simp only [AV.size, us, Sh.size], fun _ => ⟨rfl, rfl⟩, _, _, rfl, h1, hu⟩
          · exact hw.elim
        | ix i z => exact hw.elim
      | _ => cases i <;> exact hw.elim
    | own e o l =>
      cases i with
      | ix i z =>
        simp only [AV.upd] at hw
        split at hw
        · rename_i hz
          subst hz
          obtain ⟨hi, hw⟩ := hw
          rw [M.wp_bind] at hw
          simp only [VR, OR] at ha
          rcases ha with ⟨_, rfl, _⟩ | ⟨bk, cap, arr, el, hρ, rfl, hl, hcap, hhp, hs⟩
          · simp at hi
          obtain ⟨c, r, hd, hc⟩ := SegI.get e.dflt (fun _ _ _ => OR.length) l 0 _ hs i hi
          rw [Nat.zero_add] at hc
          obtain ⟨u, hk, us, _, hu⟩ := ih hw hK' (hBc _) ((unpack_VR _ _ _ _ _).2 hc)
          rw [unpack_size] at us
          obtain ⟨x, hx, q1, q2, q3, q4⟩ := putElem_VR (R := R.mv A B) (K := K) (arr := arr) (el := el) hk us hi ((R.mv_off (hKA hK) (hap K (Key.under_refl _))).trans hρ) hl hcap hhp (fun j hj hji => by
            obtain ⟨cj, rj, g1, g2⟩ := SegI.get e.dflt (fun _ _ _ => OR.length) l 0 _ hs j hj
            rw [Nat.zero_add] at g2
            exact ⟨cj, rj, g1, OR.frame (other (.ix j e.size) (by simp; omega) .unit).1 g2⟩) ⟨c, r, hd, hu⟩
          exact ⟨x, hx, q1, fun _ => ⟨q2, q3⟩, q4⟩
        · exact hw.elim
      | l => exact hw.elim
      | r n => exact hw.elim
    | hol e o l j b0 =>
      cases i with
      | ix i z =>
        simp only [AV.upd] at hw
        split at hw
        · rename_i hz
          subst hz
          obtain ⟨rfl, hw⟩ := hw
          rw [M.wp_bind] at hw
          obtain ⟨b1, b2, hi, bk, cap, arr, el, hρ, rfl, hl, hcap, hhp, hoth, c, r, hd, hc⟩ := ha
          obtain ⟨u, hk, us, _, hu⟩ := ih hw hK' (hBc _) hc
          rw [b2] at us
          obtain ⟨x, hx, q1, q2, q3, q4⟩ := putElem_VR (R := R.mv A B) (K := K) (arr := arr) (el := el) hk us hi ((R.mv_off (hKA hK) (hap K (Key.under_refl _))).trans hρ) hl hcap hhp (fun j hj hji => by
            obtain ⟨cj, rj, g1, g2⟩ := hoth j hj hji
            exact ⟨cj, rj, g1, OR.frame (other (.ix j e.size) (by simp; omega) .unit).1 g2⟩) ⟨c, r, hd, hu⟩
          exact ⟨x, hx, q1, fun _ => ⟨q2, q3⟩, q4⟩
        · exact hw.elim
      | l => exact hw.elim
      | r n => exact hw.elim
    | _ => cases i <;> exact hw.elim

theorem flat_of_ixIn {p : List Stp} (h : ixIn p = false) : flat p = true := by
  simp only [ixIn, List.any_eq_false, flat, List.all_eq_true, Bool.not_eq_true'] at h ⊢
  intro x hx
  simpa using h x hx

theorem kv_isHand {st : St} {i s : Nat} {sl : Slot} (hg : st.get i s = some sl) {B : Key} (hB : st.isHand B) : (st.kv i s).apart B :=
  fun T h1 h2 => isHand_kv hg h1 (isHand_under h2 hB)

theorem kb_isHand {st : St} {i s : Nat} {B : Key} (hB : st.isHand B) : (st.kb i s).apart B :=
  fun T h1 h2 => isHand_kb h1 (isHand_under h2 hB)

theorem apart_isHand {st : St} {q : Pl} {s : Slot} (hs : st.get q.r.k q.r.s = some s) {B : Key} (hB : st.isHand B) : (st.key q).apart B := by
  have hK : (st.key q).under (st.key ⟨q.r, []⟩) := ⟨rfl, rfl, rfl, List.nil_suffix⟩
  refine Key.apart_sub ?_ hK
  cases hbx : q.r.bx with
  | false =>
    have : st.key ⟨q.r, []⟩ = st.kv q.r.k q.r.s := by simp [St.key, St.kv, hbx]
    rw [this]; exact kv_isHand hs hB
  | true =>
    have : st.key ⟨q.r, []⟩ = st.kb q.r.k q.r.s := by simp [St.key, St.kb, hbx]
    rw [this]; exact kb_isHand hB

/-- The slice at a place comes into a hand. -/
theorem takePl_ok {C : Orc} {w0 : Base} {w : World} {st : St} {ts : List (Array Value)} {R : Cx} (h : Rel w0 st ts R w) {q : Pl} {k : AV → St → Prop} (hw : (takePl q).wp C st k) {B : Key} (hB : st.isHand B) :
    ∃ x st1, k x st1 ∧ st1.length = st.length ∧ (∀ i, st1.hand i = st.hand i) ∧ Rel w0 st1 ts (R.mv (st.key q) B) w ∧ (x.isBad = false → ∃ c, VR R x (st.key q) c) ∧ (st.key q).lv = B.lv ∧ ∀ B', st.isHand B' → (st.key q).apart B' := by
  unfold takePl at hw
  by_cases hc : q.r.k ≠ 0
  · rw [if_pos hc] at hw; exact hw.elim
  rw [if_neg hc, M.wp_bind] at hw
  have hk0 : q.r.k = 0 := by omega
  replace hw := getPl_ok h hw
  obtain ⟨x, hw, _, hx⟩ := hw
  rw [put_wp, M.wp_rd] at hw
  obtain ⟨s, hs, hw⟩ := hw
  rw [M.wp_bind] at hw
  have hs' : st.get q.r.k q.r.s = some s := by rw [hk0]; exact hs
  have hN : 0 < st.length := St.get_lt hs
  let A := st.key q
  have hall : ∀ B', st.isHand B' → A.apart B' := fun B' hB' => apart_isHand hs' hB'
  have hap : A.apart B := hall B hB
  have nh : ∀ T : Key, R.fl T.lv T.s T.bx = true → ¬ T.under B := by
    intro T e hT; rw [isHand_fl h (isHand_under hT hB)] at e; simp at e
  obtain ⟨f1, f2, f3⟩ := Cx.mv_facts (A := A) (B := B) h.zd h.lo h.lt
  have hAreg : A.lv = st.length - 1 ∧ A.s = q.r.s ∧ A.bx = q.r.bx := ⟨by simp [A, St.key, hk0], rfl, rfl⟩
  have regv : ∀ i n sl, st.get i n = some sl → ¬ (i = 0 ∧ n = q.r.s ∧ q.r.bx = false) → ∀ x : AV, R.Ok (R.mv A B) (st.kv i n) x := by
    intro i n sl hg hne x
    refine Cx.ok_mv' x ?_ (kv_isHand hg hB) nh
    intro T h1 h2
    have := St.get_lt hg
    have e1 := h1.1.symm.trans h2.1
    have e2 := h1.2.1.symm.trans h2.2.1
    have e3 := h1.2.2.1.symm.trans h2.2.2.1
    rw [hAreg.1] at e1
    rw [hAreg.2.1] at e2
    rw [hAreg.2.2] at e3
    simp only [St.kv] at e1 e2 e3
    exact hne ⟨by omega, e2, e3.symm⟩
  have regb : ∀ i n sl, st.get i n = some sl → ¬ (i = 0 ∧ n = q.r.s ∧ q.r.bx = true) → ∀ x : AV, R.Ok (R.mv A B) (st.kb i n) x := by
    intro i n sl hg hne x
    refine Cx.ok_mv' x ?_ (kb_isHand hB) nh
    intro T h1 h2
    have := St.get_lt hg
    have e1 := h1.1.symm.trans h2.1
    have e2 := h1.2.1.symm.trans h2.2.1
    have e3 := h1.2.2.1.symm.trans h2.2.2.1
    rw [hAreg.1] at e1
    rw [hAreg.2.1] at e2
    rw [hAreg.2.2] at e3
    simp only [St.kb] at e1 e2 e3
    exact hne ⟨by omega, e2, e3.symm⟩
  let K0 : Key := st.key ⟨q.r, []⟩
  have hext : A = K0.ext q.p.reverse := by simp [A, K0, St.key, Key.ext]
  have hapB : K0.apart B := by
    rcases hbx : q.r.bx with _ | _
    · have : K0 = st.kv 0 q.r.s := by simp [K0, St.key, St.kv, hbx, hk0]
      rw [this]; exact kv_isHand hs hB
    · have : K0 = st.kb 0 q.r.s := by simp [K0, St.key, St.kb, hbx, hk0]
      rw [this]; exact kb_isHand hB
  have hgood : q.p ≠ [] → (s.at q.r.bx).isBad = false := by
    intro hne
    cases e : q.p.reverse with
    | nil => exact absurd (by simpa using e) hne
    | cons i p => rw [e] at hw; exact le_nil_upd hw
  have hlen : ∀ u, (st.set 0 q.r.s (s.put q.r.bx u)).length = st.length := fun u => St.length_set ..
  have hput : ∀ (u : AV) (bx : Bool), (s.put q.r.bx u).flag bx = s.flag bx := by intro u bx; cases q.r.bx <;> cases bx <;> rfl
  cases hbx : q.r.bx with
  | false =>
    have hK0 : K0 = st.kv 0 q.r.s := by simp [K0, St.key, St.kv, hbx, hk0]
    have new : ∃ u, ((M.wr 0 q.r.s (s.put q.r.bx u) (.pure x)) : M AV).wp C st k ∧ ∀ t, ts[0]? = some t → SV (R.mv A B) u (st.kv 0 q.r.s) (t.getD q.r.s undef) := by
      by_cases hne : q.p = []
      · simp only [hne, List.reverse_nil, AV.upd] at hw
        split at hw
        · exact ⟨_, hw, fun _ _ => trivial⟩
        · exact hw.elim
      · have hg := hgood hne
        simp only [Slot.at, hbx, Bool.false_eq_true, if_false] at hg hw
        obtain ⟨g1, g2⟩ := AV.notBad hg
        have hlt : 0 < ts.length := by rw [← h.len]; exact hN
        obtain ⟨t, ht⟩ : ∃ t, ts[0]? = some t := ⟨_, List.getElem?_eq_getElem hlt⟩
        have hsv := h.slot 0 q.r.s s t hs ht
        rw [SV_VV g2, VV_iff g1] at hsv
        by_cases hag : s.v.isAgg = true
        · rw [if_pos hag] at hsv
          obtain ⟨arr, e, hv⟩ := hsv
          obtain ⟨u, hk, _, hu1, hu2⟩ := upd_take (A := A) nh q.p.reverse hw hext hapB (by rw [hK0]; exact hv)
          obtain ⟨hu1, hub⟩ := hu1 (by simpa using hne)
          obtain ⟨b1, b2⟩ := AV.notBad hub
          refine ⟨u, by rw [hbx]; exact hk, fun t' ht' => ?_⟩
          rw [ht] at ht'; cases ht'
          rw [SV_VV b2, VV_iff b1, hu1, if_pos hag]
          exact ⟨arr, e, by rw [← hK0]; exact hu2⟩
        · rw [if_neg hag] at hsv
          obtain ⟨u, hk, _, hu1, hu2⟩ := upd_take (A := A) nh q.p.reverse hw hext hapB (by rw [hK0]; exact hsv)
          obtain ⟨hu1, hub⟩ := hu1 (by simpa using hne)
          obtain ⟨b1, b2⟩ := AV.notBad hub
          refine ⟨u, by rw [hbx]; exact hk, fun t' ht' => ?_⟩
          rw [ht] at ht'; cases ht'
          rw [SV_VV b2, VV_iff b1, hu1, if_neg hag]
          rw [← hK0]; exact hu2
    obtain ⟨u, hw, hu⟩ := new
    rw [M.wp_wr] at hw
    refine ⟨x, _, hw.2, hlen u, fun i => St.hand_set .., ?_, fun hb => ?_, hAreg.1.trans hB.1.symm, hall⟩
    · refine h.step2 (hlen u) (fun i => St.frames_set ..) h.hh ?_ ?_ ?_ (h.inj.mv _ _) f1 f2 f3 h.zlt h.bel
      · intro lv n bx; show R.fl lv n bx = _; rw [h.fl, St.fl_set_same hs (hput u)]
      · intro i n sl' hg
        rw [St.get_set] at hg
        split at hg
        · rename_i hc
          obtain ⟨rfl, rfl⟩ := hc
          simp only [hs, Option.map_some, Option.some.injEq] at hg
          subst hg
          refine ⟨s, hs, .inr ?_⟩
          rw [hbx]
          exact hu
        · rename_i hc
          exact ⟨sl', hg, .inl ⟨AV.le_refl _, regv i n sl' hg (fun e => hc ⟨e.1, e.2.1⟩) _⟩⟩
      · intro i n sl' hg
        rw [St.get_set] at hg
        split at hg
        · rename_i hc
          obtain ⟨rfl, rfl⟩ := hc
          simp only [hs, Option.map_some, Option.some.injEq] at hg
          subst hg
          exact ⟨s, hs, .inl ⟨by rw [hbx]; exact AV.le_refl _, regb _ _ s hs (fun e => by rw [hbx] at e; simp at e) _⟩⟩
        · rename_i hc
          exact ⟨sl', hg, .inl ⟨AV.le_refl _, regb i n sl' hg (fun e => hc ⟨e.1, e.2.1⟩) _⟩⟩
    · obtain ⟨c, hc, _⟩ := hx hb; exact ⟨c, hc⟩
  | true =>
    have hK0 : K0 = st.kb 0 q.r.s := by simp [K0, St.key, St.kb, hbx, hk0]
    have new : ∃ u, ((M.wr 0 q.r.s (s.put q.r.bx u) (.pure x)) : M AV).wp C st k ∧ BoxR (R.mv A B) u (st.kb 0 q.r.s) := by
      by_cases hne : q.p = []
      · simp only [hne, List.reverse_nil, AV.upd] at hw
        split at hw
        · exact ⟨_, hw, .inl rfl⟩
        · exact hw.elim
      · have hg := hgood hne
        simp only [Slot.at, hbx, if_true] at hg hw
        obtain ⟨g1, g2⟩ := AV.notBad hg
        rcases h.box 0 q.r.s s hs with e | ⟨b, arr, el, e1, e2, e3⟩
        · exact absurd e g1
        obtain ⟨u, hk, _, hu1, hu2⟩ := upd_take (A := A) nh q.p.reverse hw hext hapB (by rw [hK0]; exact e3)
        refine ⟨u, by rw [hbx]; exact hk, .inr ⟨b, arr, el, ?_, e2, by rw [← hK0]; exact hu2⟩⟩
        rw [← e1]
        refine R.mv_off ?_ ?_
        · intro hu
          have := hu.2.2.2.length_le
          simp only [A, St.key, St.kb, List.length_nil, Nat.le_zero, List.length_eq_zero_iff] at this
          exact hne this
        · rw [← hK0]; exact fun hu => hapB _ (Key.under_refl _) hu
    obtain ⟨u, hw, hu⟩ := new
    rw [M.wp_wr] at hw
    refine ⟨x, _, hw.2, hlen u, fun i => St.hand_set .., ?_, fun hb => ?_, hAreg.1.trans hB.1.symm, hall⟩
    · refine h.step2 (hlen u) (fun i => St.frames_set ..) h.hh ?_ ?_ ?_ (h.inj.mv _ _) f1 f2 f3 h.zlt h.bel
      · intro lv n bx; show R.fl lv n bx = _; rw [h.fl, St.fl_set_same hs (hput u)]
      · intro i n sl' hg
        rw [St.get_set] at hg
        split at hg
        · rename_i hc
          obtain ⟨rfl, rfl⟩ := hc
          simp only [hs, Option.map_some, Option.some.injEq] at hg
          subst hg
          exact ⟨s, hs, .inl ⟨by rw [hbx]; exact AV.le_refl _, regv _ _ s hs (fun e => by rw [hbx] at e; simp at e) _⟩⟩
        · rename_i hc
          exact ⟨sl', hg, .inl ⟨AV.le_refl _, regv i n sl' hg (fun e => hc ⟨e.1, e.2.1⟩) _⟩⟩
      · intro i n sl' hg
        rw [St.get_set] at hg
        split at hg
        · rename_i hc
          obtain ⟨rfl, rfl⟩ := hc
          simp only [hs, Option.map_some, Option.some.injEq] at hg
          subst hg
          refine ⟨s, hs, .inr ?_⟩
          rw [hbx]
          exact hu
        · rename_i hc
          exact ⟨sl', hg, .inl ⟨AV.le_refl _, regb i n sl' hg (fun e => hc ⟨e.1, e.2.1⟩) _⟩⟩
    · obtain ⟨c, hc, _⟩ := hx hb; exact ⟨c, hc⟩

end Go.Proofs.Ytlndfmmigndgeaa.Ev

/- Appending. -/
namespace Go.Proofs.Ytlndfmmigndgeaa.Ev
open Go
set_option linter.unusedSimpArgs false
set_option linter.unusedVariables false

/-- Where a key's node lay ahead of the joining of two lists. -/
def joinSrc (K0 K1 : Key) (n : Nat) (T : Key) : Option Key :=
  if T.under K0 then (match T.p.getLast? with
    | some (.ix i z) => if i < n then some T else some { K1 with p := T.p.dropLast ++ [.ix (i - n) z] }
    | _ => some T)
  else if T.under K1 then none else some T

def Cx.join (R : Cx) (K0 K1 : Key) (n : Nat) : Cx := { R with ρ := fun T => (joinSrc K0 K1 n T).bind R.ρ }

theorem getLast_ix {p : List Stp} {i z : Nat} (h : p.getLast? = some (.ix i z)) : p = p.dropLast ++ [.ix i z] := by
  obtain ⟨q, hq⟩ := List.getLast?_eq_some_iff.1 h
  rw [hq]; simp

theorem joinSrc_inj {K0 K1 : Key} {n : Nat} (hs : K0.s ≠ K1.s) (hp1 : K1.p = []) {T T' S : Key} (h1 : joinSrc K0 K1 n T = some S) (h2 : joinSrc K0 K1 n T' = some S) : T = T' := by
  have cases : ∀ {T S : Key}, joinSrc K0 K1 n T = some S → (S = T ∧ ¬ T.under K1) ∨ (T.under K0 ∧ S.under K1 ∧ ∃ i z, n ≤ i ∧ T.p.getLast? = some (.ix i z) ∧ S = { K1 with p := T.p.dropLast ++ [.ix (i - n) z] }) := by
    intro T S h
    simp only [joinSrc] at h
    split at h
    · rename_i hu
      have nk : ¬ T.under K1 := fun hk => hs (hu.2.1.symm.trans hk.2.1)
      split at h
      · rename_i i z hl
        split at h
        · simp only [Option.some.injEq] at h; exact .inl ⟨h.symm, nk⟩
        · rename_i hi
          simp only [Option.some.injEq] at h
          subst h
          exact .inr ⟨hu, ⟨rfl, rfl, rfl, by rw [hp1]; exact List.nil_suffix⟩, i, z, by omega, hl, rfl⟩
      · simp only [Option.some.injEq] at h; exact .inl ⟨h.symm, nk⟩
    · split at h
      · simp at h
      · rename_i hk; simp only [Option.some.injEq] at h; exact .inl ⟨h.symm, hk⟩
  rcases cases h1 with ⟨rfl, n1⟩ | ⟨u1, k1, i, z, hi, hl, e1⟩ <;> rcases cases h2 with ⟨rfl, n2⟩ | ⟨u2, k2, i', z', hi', hl', e2⟩
  · rfl
  · exact absurd k2 n1
  · exact absurd k1 n2
  · rw [e1] at e2
    simp only [Key.mk.injEq, true_and] at e2
    have e3 := List.append_inj' e2 rfl
    simp only [List.cons.injEq, Stp.ix.injEq, and_true] at e3
    have e4 := getLast_ix hl
    have e5 := getLast_ix hl'
    have ei : i = i' := by omega
    cases T with | mk a b c p =>
    cases T' with | mk a' b' c' p' =>
    obtain ⟨q1, q2, q3, _⟩ := u1
    obtain ⟨r1, r2, r3, _⟩ := u2
    simp only at q1 q2 q3 r1 r2 r3 e4 e5 e3
    rw [e4, e5, e3.1, ei, e3.2.2, q1, q2, q3, r1, r2, r3]

theorem Rel.joined {w0 : Base} {w : World} {st : St} {ts : List (Array Value)} {R : Cx} (h : Rel w0 st ts R w) (n : Nat) : Rel w0 st ts (R.join (st.hand 0) (st.hand 1) n) w := by
  have hs : (st.hand 0).s ≠ (st.hand 1).s := by simp [St.hand]
  have sb : ∀ {T b m}, (R.join (st.hand 0) (st.hand 1) n).ρ T = some (.blk b m) → ∃ S, joinSrc (st.hand 0) (st.hand 1) n T = some S ∧ R.ρ S = some (.blk b m) := by
    intro T b m e
    simp only [Cx.join, Option.bind_eq_some_iff] at e
    exact e
  refine h.handsStep (R' := R.join (st.hand 0) (st.hand 1) n) (w' := w) ?_ (fun _ => id) rfl h.hh (fun _ _ _ => id) ?_ ?_ ?_ ?_ h.zlt h.bel
  · intro T hT
    have a0 : ¬ T.under (st.hand 0) := fun e => hT (isHand_under e (isHand_hand _ _))
    have a1 : ¬ T.under (st.hand 1) := fun e => hT (isHand_under e (isHand_hand _ _))
    simp only [Cx.join, joinSrc, if_neg a0, if_neg a1, Option.bind_some]
  · intro T T' b m m' e1 e2
    obtain ⟨S, s1, r1⟩ := sb e1
    obtain ⟨S', s2, r2⟩ := sb e2
    have := h.inj _ _ _ _ _ r1 r2
    subst this
    exact joinSrc_inj hs rfl s1 s2
  · intro b hb T m e
    obtain ⟨S, _, r1⟩ := sb e
    exact h.zd b hb S m r1
  · intro T b m e
    obtain ⟨S, _, r1⟩ := sb e
    exact h.lo _ _ _ r1
  · intro T b m e
    obtain ⟨S, _, r1⟩ := sb e
    exact h.lt _ _ _ r1

theorem join_left {R : Cx} {st : St} {n i z : Nat} (hi : i < n) (q : List Stp) : (R.join (st.hand 0) (st.hand 1) n).ρ (((st.hand 0).child (.ix i z)).plus q) = R.ρ (((st.hand 0).child (.ix i z)).plus q) := by
  have hu : (((st.hand 0).child (.ix i z)).plus q).under (st.hand 0) := Key.under_trans (Key.under_plus _ _) (Key.child_under _ _)
  have hl : (((st.hand 0).child (.ix i z)).plus q).p.getLast? = some (.ix i z) := by simp [Key.plus, Key.child, St.hand]
  simp only [Cx.join, joinSrc, if_pos hu, hl, if_pos hi, Option.bind_some]

theorem join_right {R : Cx} {st : St} {n j z : Nat} (q : List Stp) : (R.join (st.hand 0) (st.hand 1) n).ρ (((st.hand 0).child (.ix (n + j) z)).plus q) = R.ρ (((st.hand 1).child (.ix j z)).plus q) := by
  have hu : (((st.hand 0).child (.ix (n + j) z)).plus q).under (st.hand 0) := Key.under_trans (Key.under_plus _ _) (Key.child_under _ _)
  have hl : (((st.hand 0).child (.ix (n + j) z)).plus q).p.getLast? = some (.ix (n + j) z) := by simp [Key.plus, Key.child, St.hand]
  simp only [Cx.join, joinSrc, if_pos hu, hl, if_neg (by omega : ¬ n + j < n), Option.bind_some]
  have e : n + j - n = j := by omega
  rw [e]
  congr 1
  simp [Key.plus, Key.child, St.hand]

theorem join_root {R : Cx} {st : St} {n : Nat} : (R.join (st.hand 0) (st.hand 1) n).ρ (st.hand 0) = R.ρ (st.hand 0) := by
  have hl : (st.hand 0).p.getLast? = none := rfl
  simp only [Cx.join, joinSrc, if_pos (Key.under_refl _), hl, Option.bind_some]

theorem segI_append {α : Type} {Q : Nat → α → List Value → Prop} {z : Nat} (hz : ∀ i x c, Q i x c → c.length = z) : ∀ (l : List α) (i : Nat) (cs : List Value) (l' : List α) (cs' : List Value), SegI Q i l cs → cs.length = l.length * z → SegI Q (i + l.length) l' cs' → SegI Q i (l ++ l') (cs ++ cs') := by
  intro l
  induction l with
  | nil =>
    intro i cs l' cs' _ hl h
    have : cs = [] := by simpa using hl
    subst this
    simpa using h
  | cons x xs ih =>
    intro i cs l' cs' h hl h'
    obtain ⟨c, r, rfl, h1, h2⟩ := h
    have hc := hz _ _ _ h1
    refine ⟨c, r ++ cs', by simp, h1, ih (i + 1) r l' cs' h2 ?_ ?_⟩
    · simp only [List.length_append, List.length_cons, Nat.succ_mul] at hl; omega
    · have : i + 1 + xs.length = i + (x :: xs).length := by simp only [List.length_cons]; omega
      rw [this]; exact h'

theorem segI_tail {α : Type} {Q : Nat → α → List Value → Prop} : ∀ (l : List α) (i : Nat) (cs r : List Value), SegI Q i l cs → SegI Q i l (cs ++ r) := by
  intro l
  induction l with
  | nil => intro _ _ _ _; trivial
  | cons x xs ih =>
    intro i cs r h
    obtain ⟨c, r', rfl, h1, h2⟩ := h
    exact ⟨c, r' ++ r, by simp, h1, ih _ _ _ h2⟩

theorem segI_take {α : Type} {Q : Nat → α → List Value → Prop} {z : Nat} (hz : ∀ i x c, Q i x c → c.length = z) : ∀ (l : List α) (i : Nat) (cs : List Value), SegI Q i l cs → SegI Q i l (cs.take (l.length * z)) ∧ (cs.take (l.length * z)).length = l.length * z := by
  intro l
  induction l with
  | nil => intro i cs _; simp [SegI]
  | cons x xs ih =>
    intro i cs h
    obtain ⟨c, r, rfl, h1, h2⟩ := h
    have hc := hz _ _ _ h1
    obtain ⟨a, b⟩ := ih _ _ h2
    have e : (c ++ r).take ((x :: xs).length * z) = c ++ r.take (xs.length * z) := by
      simp only [List.length_cons, Nat.succ_mul]
      rw [List.take_append, List.take_of_length_le (by omega)]
      congr 2
      omega
    rw [e]
    exact ⟨⟨c, _, rfl, h1, a⟩, by simp only [List.length_append, b, List.length_cons, Nat.succ_mul]; omega⟩

theorem segI_imp {α : Type} {Q Q' : Nat → α → List Value → Prop} : ∀ (l : List α) (i : Nat) (cs : List Value), (∀ j x c, i ≤ j → j < i + l.length → Q j x c → Q' j x c) → SegI Q i l cs → SegI Q' i l cs := by
  intro l
  induction l with
  | nil => intro _ _ _ _; trivial
  | cons x xs ih =>
    intro i cs hq h
    obtain ⟨c, r, rfl, h1, h2⟩ := h
    exact ⟨c, r, rfl, hq _ _ _ (Nat.le_refl _) (by simp) h1, ih _ _ (fun j x c a b => hq j x c (by omega) (by simp only [List.length_cons]; omega)) h2⟩

theorem segI_shift {α : Type} {Q Q' : Nat → α → List Value → Prop} (n : Nat) (hq : ∀ j x c, Q j x c → Q' (n + j) x c) : ∀ (l : List α) (i : Nat) (cs : List Value), SegI Q i l cs → SegI Q' (n + i) l cs := by
  intro l
  induction l with
  | nil => intro _ _ _; trivial
  | cons x xs ih =>
    intro i cs h
    obtain ⟨c, r, rfl, h1, h2⟩ := h
    exact ⟨c, r, rfl, hq _ _ _ h1, by have := ih (i + 1) r h2; rwa [show n + (i + 1) = n + i + 1 by omega] at this⟩

/-- An owned array with more in it. -/
theorem Rel.ownSet {w0 : Base} {w : World} {st : St} {ts : List (Array Value)} {R : Cx} (h : Rel w0 st ts R w) {K : Key} (hK : st.isHand K) {e : Sh} {o : Ow} {l : List e.den} {b n cap : Nat} {arr : Array Value} {el : TypeId} {cells : List Value} (hρ : R.ρ K = some (.blk b n)) (hh : w.heap[b]? = some (.cells arr el (0, 0)))
    (hl : l.length ≤ cap) (hcap : cap * e.size ≤ cells.length) (hs : SegI (fun i x c => OR R e o (K.child (.ix i e.size)) x c) 0 l cells) :
    ∃ R', Rel w0 st ts R' (w.setRow b cells.toArray) ∧ VR R' (.own e o l) K [.slice (some ⟨b, 0, none⟩) l.length cap] := by
  let w' := w.setRow b cells.toArray
  let R' : Cx := { R with ρ := fun T => if T = K then some (.blk b l.length) else R.ρ T, h := w'.heap }
  have hb' : w'.heap[b]? = some (.cells cells.toArray el (0, 0)) := setRow_heap w b arr _ el _ hh
  have hoth : ∀ (b' : Nat) (o : Obj), b' ≠ b → w.heap[b']? = some o → w'.heap[b']? = some o := by
    intro b' o hb' ho; simp only [w']; rw [setRow_other w b b' _ hb']; exact ho
  have hsize : w'.heap.size = w.heap.size := by simp [w', World.setRow]
  have sb : ∀ {T b' m}, R'.ρ T = some (.blk b' m) → ∃ m', R.ρ T = some (.blk b' m') := by
    intro T b' m e
    simp only [R'] at e
    split at e
    · rename_i hT; simp only [Option.some.injEq, Nd.blk.injEq] at e; subst hT; rw [← e.1]; exact ⟨_, hρ⟩
    · exact ⟨_, e⟩
  have hne : ∀ {T b' m}, T ≠ K → R.ρ T = some (.blk b' m) → b' ≠ b := by
    rintro T b' m hT e rfl; exact hT (h.inj _ _ _ _ _ e hρ)
  have hzb : ∀ b', R.Z b' → b' ≠ b := by rintro b' hb rfl; exact h.zd _ hb _ _ hρ
  have h1 : Rel w0 st ts R' w' := by
    refine h.handsStep (R' := R') (fun T hT => ?_) (fun _ => id) rfl rfl ?_ ?_ ?_ ?_ ?_ (fun b hb => by rw [hsize]; exact h.zlt b hb) ?_
    · have : T ≠ K := by rintro rfl; exact hT hK
      simp only [R', if_neg this]
    · intro b' o hn ho
      refine hoth b' o ?_ ho
      rintro rfl; exact hn K n hK hρ
    · intro T T' b' m m' e1 e2
      obtain ⟨_, e1⟩ := sb e1
      obtain ⟨_, e2⟩ := sb e2
      exact h.inj _ _ _ _ _ e1 e2
    · intro b' hb T m e
      obtain ⟨_, e⟩ := sb e
      exact h.zd b' hb T _ e
    · intro T b' m e
      obtain ⟨_, e⟩ := sb e
      exact h.lo _ _ _ e
    · intro T b' m e
      obtain ⟨_, e⟩ := sb e
      rw [hsize]; exact h.lt _ _ _ e
    · exact h.bel.trans ⟨rfl, rfl, rfl, by rw [hsize]; exact Nat.le_refl _, fun k hk => setRow_other w b k _ (by have := h.lo _ _ _ hρ; omega)⟩
  refine ⟨R', h1, ?_⟩
  simp only [VR, OR]
  refine .inr ⟨b, cap, cells.toArray, el, by simp only [R', if_true], rfl, hl, by simpa using hcap, hb', ?_⟩
  simp only []
  refine segI_imp l 0 _ (fun j x c _ _ hx => ?_) hs
  refine OR.frame (R := R) (R' := R') ⟨fun _ => id, ?_, ?_, ?_⟩ hx
  · intro b' o hz ho; rw [h.hh] at ho; exact hoth b' o (hzb b' hz) ho
  · intro T hT
    have : T ≠ K := by
      rintro rfl
      have := hT.2.2.2.length_le
      simp [Key.child] at this
      omega
    simp only [R', if_neg this]
  · intro T b' m o hT hr ho
    rw [h.hh] at ho
    have : T ≠ K := by
      rintro rfl
      have := hT.2.2.2.length_le
      simp [Key.child] at this
      omega
    exact hoth b' o (hne this hr) ho

/-! ### The machine's append -/

theorem run_append_R {P : Program} {t ty et : TypeId} {i : TypeInfo} (ht : P.underlying t = some (.slice et)) (hi : P.info? et = some i) {w : World} {b n cap : Nat} {arr : Array Value} {el : TypeId} (hh : w.heap[b]? = some (.cells arr el (0, 0)))
    {ay : Option Addr} {m c : Nat} {news : List Value} (hfc : (Builtin.firstCells i.size m (.slice ay m c)).run P w = .ok news.toArray w) (h1 : ∀ u ∈ news, u.oneCell' = true) (hroom : n + m ≤ cap) (hfit : n * i.size + news.length ≤ arr.size) :
    (Builtin.append_ #[t, t] ty #[.slice (some ⟨b, 0, none⟩) n cap, .slice ay m c]).run P w = .ok (.slice (some ⟨b, 0, none⟩) (n + m) cap) (w.setRow b (repl arr.toList (n * i.size) news).toArray) := by
  have hst := run_storeCells_at P b (n * i.size) el news 0 arr w hh (by simpa using hfit) h1
  simp only [Nat.add_zero] at hst
  simp [Builtin.append_, run_underlying ht, sizeOf, typeInfo, hi, Builtin.lenOf, hroom, hfc, Addr.add_lit, hst, repl]

theorem run_append_N {P : Program} {t ty et : TypeId} {i : TypeInfo} (ht : P.underlying t = some (.slice et)) (hi : P.info? et = some i) {w : World}
    {ay : Option Addr} {c : Nat} {news : List Value} (hfc : (Builtin.firstCells i.size 0 (.slice ay 0 c)).run P w = .ok news.toArray w) :
    (Builtin.append_ #[t, t] ty #[.slice none 0 0, .slice ay 0 c]).run P w = .ok (.slice none 0 0) w := by
  simp [Builtin.append_, run_underlying ht, sizeOf, typeInfo, hi, Builtin.lenOf, hfc]

/-- What is appended, in memory. -/
structure More (P : Program) (R : Cx) (st : St) (w : World) (e : Sh) (o : Ow) (l : List e.den) (yv : Value) (news : List Value) : Prop where
  val : ∃ ay c, yv = .slice ay l.length c ∧ (l = [] ∨ ∃ a, ay = some a ∧ ∀ (j : Nat) (u : Value), news[j]? = some u → w.cell? (a.add j) = some u)
  len : news.length = l.length * e.size
  one : ∀ u ∈ news, u.oneCell' = true
  seg : SegI (fun i x c => OR R e o ((st.hand 1).child (.ix i e.size)) x c) 0 l news

theorem More.fc {P : Program} {R : Cx} {st : St} {w : World} {e : Sh} {o : Ow} {l : List e.den} {yv : Value} {news : List Value} (h : More P R st w e o l yv news) : ∃ ay c, yv = .slice ay l.length c ∧ (Builtin.firstCells e.size l.length (.slice ay l.length c)).run P w = .ok news.toArray w := by
  obtain ⟨ay, c, hy, hc⟩ := h.val
  refine ⟨ay, c, hy, ?_⟩
  rcases hc with rfl | ⟨a, rfl, hc⟩
  · have : news = [] := by have := h.len; simpa using this
    subst this
    cases ay with
    | none => exact run_firstCells_none _ _ _ _ _
    | some a => exact run_firstCells_some (P := P) w e.size 0 a 0 c [] (by simp) (fun j v hj => by simp at hj)
  · exact run_firstCells_some (P := P) w e.size l.length a l.length c news h.len hc

theorem append_run {P : Program} {E : Env} (hE : EnvOk P E) {w0 : Base} {w : World} {st : St} {ts : List (Array Value)} {R : Cx} (h : Rel w0 st ts R w) {t : TypeId} {e : Sh} (hs : E.sh t = some (.sl e)) {o : Ow} {l l' : List e.den} {sv yv : Value} {news : List Value}
    (hx : VR R (.own e o l) (st.hand 0) [sv]) (hy : More P R st w e o l' yv news) (hb : l' = [] ∨ ((l.length + l'.length) * E.bytes t ≤ 140737488355328 ∧ l.length + l'.length ≤ maxLen)) (ty : TypeId) :
    ∃ R' w' rv, (Builtin.append_ #[t, t] ty #[sv, yv]).run P w = .ok rv w' ∧ Rel w0 st ts R' w' ∧ VR R' (.own e o (l ++ l')) (st.hand 0) [rv] := by
  obtain ⟨et, ie, u1, u2, u3, u4, u5, u7⟩ := sl_info hE hs
  obtain ⟨i', z, u6, _, hz, hzc⟩ := tyB_info (hE.sh _ _ u2)
  rw [u4] at u6
  cases u6
  have hzs : z.cells.size = e.size := by
    have : z.cells.toList = zeroCells e := by
      rcases hzc with ⟨_, cs, rfl, e'⟩ | ⟨_, e'⟩
      · exact e'
      · have : z.oneCell' = true := (DR_zero (Z := fun _ => False) (h := #[]) e).one z (by rw [← e']; simp)
        rw [cells_one this]; exact e'
    rw [← zeroCells_length, ← this]; simp
  obtain ⟨ay, c, hyv, hfc⟩ := hy.fc
  rw [← u5] at hfc
  have hj := h.joined l.length
  let R1 := R.join (st.hand 0) (st.hand 1) l.length
  have hright : SegI (fun i x c => OR R1 e o ((st.hand 0).child (.ix i e.size)) x c) (l.length + 0) l' news := by
    refine segI_shift (Q := fun i x c => OR R e o ((st.hand 1).child (.ix i e.size)) x c) l.length ?_ l' 0 news hy.seg
    intro j x c hx
    exact OR.rekey (R := R) (R' := R1) (A := (st.hand 1).child (.ix j e.size)) (B := (st.hand 0).child (.ix (l.length + j) e.size)) (fun _ => id) rfl (fun q => join_right q) (q := []) hx
  simp only [VR, OR] at hx
  rcases hx with ⟨hρ, rfl, hsv⟩ | ⟨b, cap, arr, el, hρ, hsv, hl, hcap, hhp, hseg⟩
  · simp only [List.cons.injEq, and_true] at hsv
    subst hsv
    by_cases hl0 : l' = []
    · subst hl0
      refine ⟨R, w, .slice none 0 0, by rw [hyv]; exact run_append_N u1 u4 hfc, h, ?_⟩
      simp only [VR, OR]
      exact .inl ⟨hρ, by simp, by simp⟩
    · obtain ⟨b1, b2⟩ := hb.resolve_left hl0
      have hpos : 0 < l'.length := List.length_pos_iff.2 hl0
      obtain ⟨ay', c', hyv', hcc⟩ := hy.val
      rcases hcc with e0 | ⟨ad, rfl, hcc⟩
      · exact absurd e0 hl0
      simp only [List.length_nil, Nat.zero_add] at b1 b2 hright
      have hmx : (l'.length : Int) ≤ 9223372036854775807 := by simp only [maxLen] at b2; omega
      have hrun := run_append_nil (P := P) w t ty et ie z u1 u4 hz ad l'.length c' news (by rw [u5]; exact hy.len) hcc hpos hmx (by rw [u7]; omega)
      let cells : Array Value := news.toArray ++ Builtin.zeroCells z.cells (grownCap w l'.length 0 et - l'.length)
      have hge := grownCap_ge w l'.length 0 et
      have hsz : grownCap w l'.length 0 et * e.size ≤ cells.size := by
        simp only [cells, Array.size_append, List.size_toArray, size_zeroCells, hzs, hy.len, ← Nat.add_mul]
        exact Nat.mul_le_mul_right _ (by omega)
      have hd : Rel w0 st ts R1 w.drew := by
        refine hj.handsStep (R' := R1) (w' := w.drew) (fun _ _ => rfl) (fun _ => id) rfl hj.hh (fun _ _ _ => id) hj.inj hj.zd hj.lo hj.lt hj.zlt hj.bel.drew
      obtain ⟨R2, h2, hv2, _⟩ := hd.ownNew (isHand_hand st 0) et (e := e) (o := o) (l := l') (cells := cells) (cap := grownCap w l'.length 0 et) hge hsz (by
        simp only [cells, Array.toList_append]
        exact segI_tail _ _ _ _ (by simpa using hright))
      exact ⟨R2, _, _, by rw [hyv']; exact hrun, h2, by simpa using hv2⟩
  · simp only [List.cons.injEq, and_true] at hsv
    subst hsv
    have hleft : SegI (fun i x c => OR R1 e o ((st.hand 0).child (.ix i e.size)) x c) 0 l arr.toList := by
      refine segI_imp l 0 _ (fun j x c _ hjl hx => ?_) hseg
      exact OR.rekey (R := R) (R' := R1) (A := (st.hand 0).child (.ix j e.size)) (B := (st.hand 0).child (.ix j e.size)) (fun _ => id) rfl (fun q => join_left (by omega) q) (q := []) hx
    obtain ⟨t1, t2⟩ := segI_take (Q := fun i x c => OR R1 e o ((st.hand 0).child (.ix i e.size)) x c) (fun _ _ _ => OR.length) l 0 _ hleft
    have hboth := segI_append (Q := fun i x c => OR R1 e o ((st.hand 0).child (.ix i e.size)) x c) (fun _ _ _ => OR.length) l 0 _ l' news t1 t2 (by rw [Nat.zero_add]; simpa using hright)
    have hρ1 : R1.ρ (st.hand 0) = some (.blk b l.length) := by rw [← hρ]; exact join_root
    have hhw : w.heap[b]? = some (.cells arr el (0, 0)) := by rw [← h.hh]; exact hhp
    by_cases hroom : l.length + l'.length ≤ cap
    · have hfit : l.length * ie.size + news.length ≤ arr.size := by
        rw [u5, hy.len, ← Nat.add_mul]
        exact Nat.le_trans (Nat.mul_le_mul_right _ hroom) hcap
      have hrun := run_append_R (P := P) (ty := ty) u1 u4 hhw hfc hy.one hroom hfit
      have hrl : (repl arr.toList (l.length * ie.size) news).length = arr.toList.length := repl_length (by simpa using hfit)
      obtain ⟨R2, h2, hv2⟩ := hj.ownSet (isHand_hand st 0) (e := e) (o := o) (l := l ++ l') (cap := cap) (cells := repl arr.toList (l.length * ie.size) news) hρ1 hhw (by simpa using hroom) (by rw [hrl]; simpa using hcap) (by
        simp only [repl, u5]
        exact segI_tail _ _ _ _ hboth)
      refine ⟨R2, _, _, by rw [hyv]; exact hrun, h2, ?_⟩
      rw [List.length_append] at hv2
      exact hv2
    · have hl0 : l' ≠ [] := by rintro rfl; simp at hroom; omega
      obtain ⟨b1, b2⟩ := hb.resolve_left hl0
      obtain ⟨ay', c', hyv', hcc⟩ := hy.val
      rcases hcc with e0 | ⟨ad, rfl, hcc⟩
      · exact absurd e0 hl0
      have holds : ∀ (j : Nat) (u : Value), (arr.toList.take (l.length * e.size))[j]? = some u → w.cell? ((⟨b, 0, none⟩ : Addr).add j) = some u := by
        intro j u hu
        rw [addr_add, Nat.zero_add]
        simp only [World.cell?, hhw]
        rw [List.getElem?_take] at hu
        split at hu
        · simpa using hu
        · simp at hu
      have hmx : ((l.length + l'.length : Nat) : Int) ≤ 9223372036854775807 := by simp only [maxLen] at b2; omega
      have hrun := run_append_grow (P := P) w t ty et ie z u1 u4 hz ⟨b, 0, none⟩ l.length cap (arr.toList.take (l.length * e.size)) (by rw [u5]; exact t2) holds ad l'.length c' news (by rw [u5]; exact hy.len) hcc (by omega) hmx (growslice_fits (by omega) (by rw [u7]; exact b1))
      let cells : Array Value := (arr.toList.take (l.length * e.size)).toArray ++ news.toArray ++ Builtin.zeroCells z.cells (grownCap w (l.length + l'.length) cap et - (l.length + l'.length))
      have hge := grownCap_ge w (l.length + l'.length) cap et
      have hsz : grownCap w (l.length + l'.length) cap et * e.size ≤ cells.size := by
        simp only [cells, Array.size_append, List.size_toArray, size_zeroCells, hzs, hy.len, t2, ← Nat.add_mul]
        exact Nat.mul_le_mul_right _ (by omega)
      have hd : Rel w0 st ts R1 w.drew := by
        refine hj.handsStep (R' := R1) (w' := w.drew) (fun _ _ => rfl) (fun _ => id) rfl hj.hh (fun _ _ _ => id) hj.inj hj.zd hj.lo hj.lt hj.zlt hj.bel.drew
      obtain ⟨R2, h2, hv2, _⟩ := hd.ownNew (isHand_hand st 0) et (e := e) (o := o) (l := l ++ l') (cells := cells) (cap := grownCap w (l.length + l'.length) cap et) (by simpa using hge) hsz (by
        simp only [cells, Array.toList_append]
        exact segI_tail _ _ _ _ hboth)
      refine ⟨R2, _, _, by rw [hyv']; exact hrun, h2, ?_⟩
      rw [List.length_append] at hv2
      exact hv2

end Go.Proofs.Ytlndfmmigndgeaa.Ev

/- The operation 'append'. -/
namespace Go.Proofs.Ytlndfmmigndgeaa.Ev
open Go
set_option linter.unusedSimpArgs false
set_option linter.unusedVariables false

/-- The cells of a list that lies in an array. -/
theorem read_cells {w : World} {b off : Nat} {arr : Array Value} {el : TypeId} {fr : Nat × Nat} (hh : w.heap[b]? = some (.cells arr el fr)) {m : Nat} : ∀ (j : Nat) (u : Value), ((arr.toList.drop off).take m)[j]? = some u → w.cell? ((⟨b, off, none⟩ : Addr).add j) = some u := by
  intro j u hu
  rw [addr_add]
  simp only [World.cell?, hh]
  rw [List.getElem?_take] at hu
  split at hu
  · rw [List.getElem?_drop] at hu; simpa using hu
  · simp at hu

theorem seg_segI {α : Type} {Q : α → List Value → Prop} {Q' : Nat → α → List Value → Prop} (h : ∀ i x c, Q x c → Q' i x c) : ∀ (l : List α) (i : Nat) (cs : List Value), Seg Q l cs → SegI Q' i l cs := by
  intro l
  induction l with
  | nil => intro _ _ _; trivial
  | cons x xs ih =>
    intro i cs hs
    obtain ⟨c, r, rfl, h1, h2⟩ := hs
    exact ⟨c, r, rfl, h _ _ _ h1, ih _ _ h2⟩

theorem segI_seg {α : Type} {Q : Nat → α → List Value → Prop} {Q' : α → List Value → Prop} (h : ∀ i x c, Q i x c → Q' x c) : ∀ (l : List α) (i : Nat) (cs : List Value), SegI Q i l cs → Seg Q' l cs := by
  intro l
  induction l with
  | nil => intro _ _ _; trivial
  | cons x xs ih =>
    intro i cs hs
    obtain ⟨c, r, rfl, h1, h2⟩ := hs
    exact ⟨c, r, rfl, h _ _ _ h1, ih _ _ h2⟩

/-- From frozen cells. -/
theorem More.of_seg {P : Program} {R : Cx} {st : St} {w : World} {e : Sh} {l : List e.den} {b off cap : Nat} {arr : Array Value} {el : TypeId} {fr : Nat × Nat} (hh : w.heap[b]? = some (.cells arr el fr)) (hs : Seg (DR R.Z R.h e) l (arr.toList.drop off)) :
    More P R st w e .fz l (.slice (some ⟨b, off, none⟩) l.length cap) ((arr.toList.drop off).take (l.length * e.size)) := by
  have h1 : SegI (fun i x c => OR R e .fz ((st.hand 1).child (.ix i e.size)) x c) 0 l (arr.toList.drop off) := seg_segI (Q := DR R.Z R.h e) (Q' := fun i x c => OR R e .fz ((st.hand 1).child (.ix i e.size)) x c) (fun i x c hx => OR_fz.2 hx) l 0 _ hs
  obtain ⟨t1, t2⟩ := segI_take (Q := fun i x c => OR R e .fz ((st.hand 1).child (.ix i e.size)) x c) (fun _ _ _ => OR.length) l 0 _ h1
  refine ⟨⟨some ⟨b, off, none⟩, cap, rfl, .inr ⟨_, rfl, read_cells hh⟩⟩, t2, ?_, t1⟩
  have key : ∀ (l : List e.den) (i : Nat) (cs : List Value), SegI (fun i x c => OR R e .fz ((st.hand 1).child (.ix i e.size)) x c) i l cs → cs.length = l.length * e.size → ∀ u ∈ cs, u.oneCell' = true := by
    intro l
    induction l with
    | nil => intro i cs _ hl u hu; have : cs = [] := by simpa using hl
             subst this; simp at hu
    | cons x xs ih =>
      intro i cs hs hl u hu
      obtain ⟨c, r, rfl, a, b⟩ := hs
      rcases List.mem_append.1 hu with hu | hu
      · exact a.one u hu
      · refine ih _ _ b ?_ u hu
        have := OR.length a
        simp only [List.length_append, List.length_cons, Nat.succ_mul] at hl; omega
  exact key l 0 _ t1 t2

theorem segI_one {R : Cx} {e : Sh} {o : Ow} {K : Key} : ∀ (l : List e.den) (i : Nat) (cs : List Value), SegI (fun i x c => OR R e o (K.child (.ix i e.size)) x c) i l cs → cs.length = l.length * e.size → ∀ u ∈ cs, u.oneCell' = true := by
  intro l
  induction l with
  | nil => intro i cs _ hl u hu; have : cs = [] := by simpa using hl
           subst this; simp at hu
  | cons x xs ih =>
    intro i cs hs hl u hu
    obtain ⟨c, r, rfl, a, b⟩ := hs
    rcases List.mem_append.1 hu with hu | hu
    · exact a.one u hu
    · refine ih _ _ b ?_ u hu
      have := OR.length a
      simp only [List.length_append, List.length_cons, Nat.succ_mul] at hl; omega

def MoreV (P : Program) (R : Cx) (st : St) (w : World) (e : Sh) (yv : Value) : AV → Prop
  | .nils => yv = .slice none 0 0
  | .d s l => ∃ h : s = .sl e, ∃ news, More P R st w e .fz (castDen h l : (Sh.sl e).den) yv news
  | .own e' o l => ∃ h : e' = e, ∃ news, More P R st w e o (castDen (congrArg Sh.sl h) l : (Sh.sl e).den) yv news
  | _ => False

theorem moreAV_ok {P : Program} {C : Orc} {w0 : Base} {w : World} {st : St} {ts : List (Array Value)} {R : Cx} (h : Rel w0 st ts R w) {e : Sh} {v : AV} {yv : Value} (hv : SV R v (st.hand 1) yv) {k : AV → St → Prop} (hw : (moreAV e v).wp C st k) :
    ∃ u, k u st ∧ MoreV P R st w e yv u := by
  unfold moreAV at hw
  split at hw
  · rename_i q e1
    rw [M.wp_bind] at hw
    replace hw := getPl_ok h hw
    obtain ⟨x, hw, _, hx⟩ := hw
    split at hw
    · rename_i e2 o l
      by_cases hc : e1 = e ∧ e2 = e ∧ o = .fz
      · rw [if_pos hc] at hw
        obtain ⟨rfl, rfl, rfl⟩ := hc
        obtain ⟨c, hc, _⟩ := hx rfl
        obtain ⟨_, hh⟩ := vw_header h rfl hv hc
        refine ⟨_, hw, rfl, ?_⟩
        rcases hh with ⟨rfl, hval, _⟩ | ⟨b, cap, arr, el, hval, h2, h3, h4, _, h5⟩
        · exact ⟨[], ⟨none, 0, hval, .inl rfl⟩, by simp [castDen], by simp, trivial⟩
        · rw [hval]
          have := segI_seg (Q := fun i x c => OR R e2 .fz ((st.key q).child (.ix i e2.size)) x c) (Q' := DR R.Z R.h e2) (fun i x c hx => OR_fz.1 hx) l 0 _ h5
          have h6 : More P R st w e2 .fz l (.slice (some ⟨b, 0, none⟩) l.length cap) _ := More.of_seg (off := 0) h4 (by simpa using this)
          exact ⟨_, h6⟩
      · rw [if_neg hc] at hw; exact hw.elim
    · exact hw.elim
  · rename_i q e1 lo n
    rw [M.wp_bind] at hw
    replace hw := getPl_ok h hw
    obtain ⟨x, hw, _, hx⟩ := hw
    split at hw
    · rename_i e2 o l
      by_cases hc : e1 = e ∧ e2 = e ∧ o = .fz
      · rw [if_pos hc] at hw
        obtain ⟨rfl, rfl, rfl⟩ := hc
        obtain ⟨c, hc, _⟩ := hx rfl
        have hc0 := hc
        obtain ⟨_, hh⟩ := sub_header h rfl hv hc
        refine ⟨_, hw, rfl, ?_⟩
        rcases hh with ⟨rfl, hval, rfl, rfl, _⟩ | ⟨b, off, cap, hval, h2, h3, h4, hρ⟩
        · exact ⟨[], ⟨none, 0, by simpa [castDen] using hval, .inl (by simp [castDen])⟩, by simp [castDen], by simp, trivial⟩
        · simp only [VR, OR] at hc0
          rcases hc0 with ⟨hn, _⟩ | ⟨b', cap', arr, el, hρ', _, _, _, hhp, hseg⟩
          · rw [hn] at hρ; simp at hρ
          · rw [hρ] at hρ'
            simp only [Option.some.injEq, Nd.blk.injEq] at hρ'
            obtain ⟨rfl, _⟩ := hρ'
            rw [h.hh] at hhp
            have h5 := segI_seg (Q := fun i x c => DR R.Z R.h e2 x c) (Q' := DR R.Z R.h e2) (fun i x c hx => hx) l 0 _ hseg
            have hlen : ((l.drop lo).take n).length = n := by simp only [List.length_take, List.length_drop]; omega
            rw [hval]
            rcases h4 with h4 | h4
            · subst h4
              have e0 : (l.drop lo).take 0 = [] := by simp
              refine ⟨[], ⟨some ⟨b, off, none⟩, cap, by simp [castDen, e0], .inr ⟨_, rfl, fun j u hu => by simp at hu⟩⟩, by simp [castDen, e0], by simp, by simp [castDen, e0, SegI]⟩
            · have h6 := seg_take _ _ (seg_drop (fun _ _ => DR.length) l _ h5 lo (by omega)) n
              have := More.of_seg (P := P) (st := st) (cap := cap) (off := lo * e2.size) hhp h6
              rw [hlen, ← h4] at this
              exact ⟨_, this⟩
      · rw [if_neg hc] at hw; exact hw.elim
    · exact hw.elim
  · rename_i s l
    by_cases hs : s = .sl e
    · rw [if_pos hs] at hw
      subst hs
      refine ⟨_, hw, rfl, ?_⟩
      have hd : DR R.Z R.h (.sl e) l [yv] := hv
      simp only [DR] at hd
      rcases hd with ⟨rfl, ad, cp, hval⟩ | ⟨b, off, cap, arr, el, fr, hval, h2, h3, h4, h5⟩
      · simp only [List.cons.injEq, and_true] at hval
        exact ⟨[], ⟨ad, cp, hval, .inl rfl⟩, by simp [castDen], by simp, trivial⟩
      · simp only [List.cons.injEq, and_true] at hval
        rw [hval]
        rw [h.hh] at h4
        exact ⟨_, More.of_seg h4 h5⟩
    · rw [if_neg hs] at hw; exact hw.elim
  · rename_i e1 o l
    by_cases hs : e1 = e
    · rw [if_pos hs] at hw
      subst hs
      refine ⟨_, hw, rfl, ?_⟩
      have hd : OR R (.sl e1) (.ow o) (st.hand 1) l [yv] := hv
      simp only [OR] at hd
      rcases hd with ⟨_, rfl, hval⟩ | ⟨b, cap, arr, el, hρ, hval, hl, hcap, hhp, hseg⟩
      · simp only [List.cons.injEq, and_true] at hval
        exact ⟨[], ⟨none, 0, hval, .inl rfl⟩, by simp [castDen], by simp, trivial⟩
      · simp only [List.cons.injEq, and_true] at hval
        rw [hval]
        rw [h.hh] at hhp
        obtain ⟨t1, t2⟩ := segI_take (Q := fun i x c => OR R e1 o ((st.hand 1).child (.ix i e1.size)) x c) (fun _ _ _ => OR.length) l 0 _ hseg
        have := read_cells (off := 0) hhp (m := l.length * e1.size)
        simp only [List.drop_zero] at this
        exact ⟨_, ⟨some ⟨b, 0, none⟩, cap, rfl, .inr ⟨_, rfl, this⟩⟩, t2, segI_one l 0 _ t1 t2, t1⟩
    · rw [if_neg hs] at hw; exact hw.elim
  · refine ⟨_, hw, ?_⟩
    have hd : [yv] = [Value.slice none 0 0] := hv
    show yv = _
    simpa using hd
  · exact hw.elim

end Go.Proofs.Ytlndfmmigndgeaa.Ev

/- Appending a number of zero elements ('append(s, make(..)...)'). -/
namespace Go.Proofs.Ytlndfmmigndgeaa.Ev
open Go
set_option linter.unusedSimpArgs false
set_option linter.unusedVariables false

theorem zeroCells_toList (z : Array Value) (n : Nat) : (Builtin.zeroCells z n).toList = (List.replicate n z.toList).flatten := madeCells_eq z n

/-- There is room. -/
theorem run_appendZ_R {P : Program} {t tn ty et : TypeId} {i : TypeInfo} {z : Value} {kn kq : IntKind} (ht : P.underlying t = some (.slice et)) (htn : P.underlying tn = some (.int kn)) (hi : P.info? et = some i) (hz : i.zero = some z) (hzs : z.cells.size = i.size) (hs : 0 < i.size)
    {w : World} {b n cap : Nat} {arr : Array Value} {el : TypeId} (hh : w.heap[b]? = some (.cells arr el (0, 0))) {m : Nat} (h1 : ∀ u ∈ z.cells.toList, u.oneCell' = true) (hroom : n + m ≤ cap) (hfit : n * i.size + m * i.size ≤ arr.size) (h63 : (m : Int) ≤ 9223372036854775807) (h48 : m * i.bytes ≤ 281474976710656) :
    (Builtin.append_ #[t, tn] ty #[.slice (some ⟨b, 0, none⟩) n cap, .int kq m]).run P w = .ok (.slice (some ⟨b, 0, none⟩) (n + m) cap) (w.setRow b (repl arr.toList (n * i.size) (List.replicate m z.cells.toList).flatten).toArray) := by
  have hw : IntKind.i64.wrap (m : Int) = m := by rw [IntKind.wrap_i64]; omega
  have h48i : ¬ (281474976710656 < (m : Int) * (i.bytes : Int)) := by
    rw [← Int.natCast_mul]
    omega
  have hneg : ¬ ((m : Int) < 0) := by omega
  have hlen : (List.replicate m z.cells.toList).flatten.length = m * i.size := by
    rw [← hzs]; simp
  have hone : ∀ u ∈ (List.replicate m z.cells.toList).flatten, u.oneCell' = true := by
    intro u hu
    obtain ⟨l, hl, hu⟩ := List.mem_flatten.1 hu
    rw [List.eq_of_mem_replicate hl] at hu
    exact h1 u hu
  have hst := run_storeCells_at P b (n * i.size) el (List.replicate m z.cells.toList).flatten 0 arr w hh (by simpa [hlen] using hfit) hone
  simp only [Nat.add_zero] at hst
  by_cases hm : m = 0
  · subst hm
    simp only [List.replicate_zero, List.flatten_nil] at hst ⊢
    have hr : n ≤ cap := by omega
    have hw0 : (IntKind.i64.wrap 0) = 0 := by decide
    simp [Builtin.append_, run_underlying ht, run_underlying htn, sizeOf, typeInfo, hi, asInt, asIntOf, hw0, hr, Addr.add_lit, hst, repl]
  · have hns : ¬ (m * i.size = 0) := Nat.mul_ne_zero hm (by omega)
    simp [Builtin.append_, run_underlying ht, run_underlying htn, sizeOf, typeInfo, zeroValue, hi, hz, asInt, asIntOf, hw, hneg, hns, h48i, hroom, Addr.add_lit, zeroCells_toList, hst, repl]

theorem run_appendZ_N {P : Program} {t tn ty et : TypeId} {i : TypeInfo} {kn kq : IntKind} (ht : P.underlying t = some (.slice et)) (htn : P.underlying tn = some (.int kn)) (hi : P.info? et = some i) {w : World} :
    (Builtin.append_ #[t, tn] ty #[.slice none 0 0, .int kq 0]).run P w = .ok (.slice none 0 0) w := by
  have hw : (IntKind.i64.wrap 0) = 0 := by decide
  simp [Builtin.append_, run_underlying ht, run_underlying htn, sizeOf, typeInfo, hi, asInt, asIntOf, hw]

theorem seg_zero {R : Cx} {e : Sh} {K : Key} {z : List Value} (hz : z = zeroCells e) (m j : Nat) : SegI (fun i x c => OR R e .fz (K.child (.ix i e.size)) x c) j (List.replicate m e.dflt) (List.replicate m z).flatten := by
  subst hz
  exact seg_replicate (Q := fun i x c => OR R e .fz (K.child (.ix i e.size)) x c) (fun i => OR_fz.2 (DR_zero e)) _ _ _ (Nat.le_refl _)

theorem appendZ_run {P : Program} {E : Env} (hE : EnvOk P E) {w0 : Base} {w : World} {st : St} {ts : List (Array Value)} {R : Cx} (h : Rel w0 st ts R w) {t tn : TypeId} {e : Sh} (hs : E.sh t = some (.sl e)) (hsn : E.sh tn = some (.int .i64)) {l : List e.den} {sv : Value} {m : Nat}
    (hx : VR R (.own e .fz l) (st.hand 0) [sv]) (hb : (l.length + m) * E.bytes t ≤ 140737488355328 ∧ l.length + m ≤ maxLen) (ty : TypeId) :
    ∃ R' w' rv, (Builtin.append_ #[t, tn] ty #[sv, .int .i64 m]).run P w = .ok rv w' ∧ Rel w0 st ts R' w' ∧ VR R' (.own e .fz (l ++ List.replicate m e.dflt)) (st.hand 0) [rv] := by
  obtain ⟨et, ie, u1, u2, u3, u4, u5, u7⟩ := sl_info hE hs
  obtain ⟨i', z, u6, _, hz, hzc⟩ := tyB_info (hE.sh _ _ u2)
  rw [u4] at u6
  cases u6
  have un : P.underlying tn = some (.int .i64) := by
    have := hE.sh _ _ hsn
    exact (tyB_scalar this).1 _ rfl
  have hzl : z.cells.toList = zeroCells e := by
    rcases hzc with ⟨_, cs, rfl, e'⟩ | ⟨_, e'⟩
    · exact e'
    · have : z.oneCell' = true := (DR_zero (Z := fun _ => False) (h := #[]) e).one z (by rw [← e']; simp)
      rw [cells_one this]; exact e'
  have hzs : z.cells.size = ie.size := by rw [u5, ← zeroCells_length, ← hzl]; simp
  have hone : ∀ u ∈ z.cells.toList, u.oneCell' = true := by rw [hzl]; exact (DR_zero (Z := fun _ => False) (h := #[]) e).one
  obtain ⟨b1, b2⟩ := hb
  have hie : 0 < ie.size := by rw [u5]; omega
  have b63 : ((l.length + m : Nat) : Int) ≤ 9223372036854775807 := by simp only [maxLen] at b2; omega
  have m63 : (m : Int) ≤ 9223372036854775807 := by omega
  have m48 : m * ie.bytes ≤ 281474976710656 := by
    rw [u7]; exact Nat.le_trans (Nat.mul_le_mul_right _ (by omega : m ≤ l.length + m)) (by omega)
  simp only [VR, OR] at hx
  rcases hx with ⟨hρ, rfl, hsv⟩ | ⟨b, cap, arr, el, hρ, hsv, hl, hcap, hhp, hseg⟩
  · simp only [List.cons.injEq, and_true] at hsv
    subst hsv
    by_cases hm : m = 0
    · subst hm
      refine ⟨R, w, .slice none 0 0, run_appendZ_N u1 un u4, h, ?_⟩
      simp only [VR, OR]
      exact .inl ⟨hρ, by simp, by simp⟩
    · have hpos : 0 < m := by omega
      have hrun := Lib.run_append_nil_zeros (P := P) w t tn ty et ie z .i64 .i64 u1 un u4 hz m hpos hie m63 m48
      let cells : Array Value := Builtin.zeroCells z.cells m ++ Builtin.zeroCells z.cells (grownCap w m 0 et - m)
      have hge := grownCap_ge w m 0 et
      have hsz : grownCap w m 0 et * e.size ≤ cells.size := by
        simp only [cells, Array.size_append, size_zeroCells, hzs, u5, ← Nat.add_mul]
        exact Nat.mul_le_mul_right _ (by omega)
      have hd : Rel w0 st ts R w.drew := by
        refine h.handsStep (R' := R) (w' := w.drew) (fun _ _ => rfl) (fun _ => id) rfl h.hh (fun _ _ _ => id) h.inj h.zd h.lo h.lt h.zlt h.bel.drew
      obtain ⟨R2, h2, hv2, _⟩ := hd.ownNew (isHand_hand st 0) et (e := e) (o := .fz) (l := List.replicate m e.dflt) (cells := cells) (cap := grownCap w m 0 et) (by simpa using hge) hsz (by
        simp only [cells, Array.toList_append, zeroCells_toList]
        exact segI_tail _ _ _ _ (seg_zero hzl m 0))
      simp only [List.length_replicate] at hv2
      exact ⟨R2, _, _, hrun, h2, by simpa using hv2⟩
  · simp only [List.cons.injEq, and_true] at hsv
    subst hsv
    have hseg : SegI (fun i x c => OR R e .fz ((st.hand 0).child (.ix i e.size)) x c) 0 l arr.toList := segI_imp l 0 _ (fun j x c _ _ hx => OR_fz.2 hx) hseg
    obtain ⟨t1, t2⟩ := segI_take (Q := fun i x c => OR R e .fz ((st.hand 0).child (.ix i e.size)) x c) (fun _ _ _ => OR.length) l 0 _ hseg
    have hboth := segI_append (Q := fun i x c => OR R e .fz ((st.hand 0).child (.ix i e.size)) x c) (fun _ _ _ => OR.length) l 0 _ (List.replicate m e.dflt) _ t1 t2 (seg_zero (R := R) (K := st.hand 0) hzl m _)
    have hnl : (List.replicate m z.cells.toList).flatten.length = m * e.size := by rw [← u5, ← hzs]; simp
    have hhw : w.heap[b]? = some (.cells arr el (0, 0)) := by rw [← h.hh]; exact hhp
    by_cases hroom : l.length + m ≤ cap
    · have hfit : l.length * ie.size + m * ie.size ≤ arr.size := by
        rw [u5, ← Nat.add_mul]
        exact Nat.le_trans (Nat.mul_le_mul_right _ hroom) hcap
      have hrun := run_appendZ_R (P := P) (ty := ty) (kq := .i64) u1 un u4 hz hzs hie hhw hone hroom hfit m63 m48
      have hrl : (repl arr.toList (l.length * ie.size) (List.replicate m z.cells.toList).flatten).length = arr.toList.length := repl_length (by rw [hnl, ← u5]; simpa using hfit)
      obtain ⟨R2, h2, hv2⟩ := h.ownSet (isHand_hand st 0) (e := e) (o := .fz) (l := l ++ List.replicate m e.dflt) (cap := cap) (cells := repl arr.toList (l.length * ie.size) (List.replicate m z.cells.toList).flatten) hρ hhw (by simpa using hroom) (by rw [hrl]; simpa using hcap) (by
        simp only [repl, u5]
        exact segI_tail _ _ _ _ hboth)
      refine ⟨R2, _, _, hrun, h2, ?_⟩
      simp only [List.length_append, List.length_replicate] at hv2
      exact hv2
    · have hm : 0 < m := by omega
      have holds : ∀ (j : Nat) (u : Value), (arr.toList.take (l.length * e.size))[j]? = some u → w.drew.cell? ((⟨b, 0, none⟩ : Addr).add j) = some u := by
        intro j u hu
        rw [addr_add, Nat.zero_add]
        have hd : w.drew.heap = w.heap := rfl
        simp only [World.cell?, hd, hhw]
        rw [List.getElem?_take] at hu
        split at hu
        · simpa using hu
        · simp at hu
      have hold := run_firstCells_some (P := P) w.drew ie.size l.length ⟨b, 0, none⟩ l.length cap (arr.toList.take (l.length * e.size)) (by rw [u5]; exact t2) holds
      have hrun := Lib.run_append_grow_zeros (P := P) w t tn ty et ie z .i64 .i64 u1 un u4 hz (some ⟨b, 0, none⟩) l.length cap (arr.toList.take (l.length * e.size)) hold m hm hie (by omega) b63 m48 (growslice_fits (by omega) (by rw [u7]; exact b1))
      let cells : Array Value := (arr.toList.take (l.length * e.size)).toArray ++ Builtin.zeroCells z.cells m ++ Builtin.zeroCells z.cells (grownCap w (l.length + m) cap et - (l.length + m))
      have hge := grownCap_ge w (l.length + m) cap et
      have hsz : grownCap w (l.length + m) cap et * e.size ≤ cells.size := by
        simp only [cells, Array.size_append, List.size_toArray, size_zeroCells, hzs, u5, t2, ← Nat.add_mul]
        exact Nat.mul_le_mul_right _ (by omega)
      have hd : Rel w0 st ts R w.drew := by
        refine h.handsStep (R' := R) (w' := w.drew) (fun _ _ => rfl) (fun _ => id) rfl h.hh (fun _ _ _ => id) h.inj h.zd h.lo h.lt h.zlt h.bel.drew
      obtain ⟨R2, h2, hv2, _⟩ := hd.ownNew (isHand_hand st 0) et (e := e) (o := .fz) (l := l ++ List.replicate m e.dflt) (cells := cells) (cap := grownCap w (l.length + m) cap et) (by simpa using hge) hsz (by
        simp only [cells, Array.toList_append, zeroCells_toList]
        exact segI_tail _ _ _ _ hboth)
      refine ⟨R2, _, _, hrun, h2, ?_⟩
      simp only [List.length_append, List.length_replicate] at hv2
      exact hv2

end Go.Proofs.Ytlndfmmigndgeaa.Ev

/- The operation 'append', whole. -/
namespace Go.Proofs.Ytlndfmmigndgeaa.Ev
open Go
set_option linter.unusedSimpArgs false
set_option linter.unusedVariables false

/-- What lies in another hand stays. -/
def KeptU (R R' : Cx) (st : St) (i : Nat) : Prop := ∀ (K : Key) (v : AV) (cs : List Value), K.under (st.hand i) → VR R v K cs → VR R' v K cs

theorem takeOp_keptU {C : Orc} {w0 : Base} {w : World} {st : St} {a : Act} {ts : List (Array Value)} {R : Cx} (h : Rel w0 st (a.tmps :: ts) R w) {x : Operand} {k : AV → St → Prop} (hw : (takeOp x).wp C st k) (j i : Nat) (hij : i ≠ j) :
    ∃ v st1 R1, k v st1 ∧ Rel w0 st1 (a.tmps :: ts) R1 w ∧ st1.length = st.length ∧ (∀ i, st1.hand i = st.hand i) ∧ KeptU R R1 st i ∧ SV R1 v (st.hand j) (a.eval x) := by
  cases x with
  | tmp t =>
    simp only [takeOp, M.wp_rd] at hw
    obtain ⟨s, hs, hk⟩ := hw
    by_cases ho : s.v.hasOwn = true
    · rw [if_pos ho, M.wp_wr] at hk
      obtain ⟨_, hk⟩ := hk
      obtain ⟨h1, h2⟩ := h.take hs j
      refine ⟨_, _, _, hk, h1, St.length_set .., fun i => St.hand_set .., ?_, h2⟩
      intro K v cs hK hv
      refine VR.mv_other (AV.le_refl _) (Key.apart_sub (Key.apart_symm (kv_hand_apart st t i hs)) hK) (Key.apart_sub (hand_apart st hij) hK) ?_ hv
      intro T _ e hT; rw [fl_under hT, h.fl_hand] at e; simp at e
    · rw [if_neg ho] at hk
      have ho : s.v.hasOwn = false := by simpa using ho
      exact ⟨_, _, R, hk, h, rfl, fun _ => rfl, fun _ _ _ _ => id, SV.move ho (by rw [kv_lv]; rfl) (h.slot 0 t s _ hs rfl)⟩
  | const c => exact ⟨_, _, R, hw, h, rfl, fun _ => rfl, fun _ _ _ _ => id, constAV_VR _ _ _⟩
  | global g => exact hw.elim
  | func f => exact ⟨_, _, R, hw, h, rfl, fun _ => rfl, fun _ _ _ _ => id, func_DR⟩

theorem ownMore_ok {C : Orc} {w0 : Base} {w : World} {st : St} {ts : List (Array Value)} {R : Cx} (h : Rel w0 st ts R w) {v : AV} {yv : Value} (hv : SV R v (st.hand 1) yv) {k : AV → St → Prop} (hw : (ownMore v).wp C st k) :
    ∃ u st1 R1, k u st1 ∧ Rel w0 st1 ts R1 w ∧ st1.length = st.length ∧ (∀ i, st1.hand i = st.hand i) ∧ Kept R R1 st 1 ∧ SV R1 u (st.hand 1) yv := by
  unfold ownMore at hw
  split at hw
  · rename_i q e1
    rw [M.wp_bind] at hw
    replace hw := getPl_ok h hw
    obtain ⟨x, hw, hx0, hx1⟩ := hw
    clear hx0 hx1
    split at hw
    · rename_i e2 o l
      by_cases ho : o = .fz
      · rw [if_pos ho] at hw; exact ⟨_, st, R, hw, h, rfl, fun _ => rfl, Kept.refl _ _ _, hv⟩
      · rw [if_neg ho, M.wp_bind] at hw
        replace hw := takePl_ok h hw (isHand_hand st 1)
        obtain ⟨x', st2, hw, hl2, hh2, h2, hx2, hlv, hap⟩ := hw
        split at hw
        · rename_i e3 o3 l3
          by_cases he : e3 = e1
          · rw [if_pos he] at hw
            subst he
            obtain ⟨c, hcv⟩ := hx2 rfl
            obtain ⟨_, hcase⟩ := vw_header h rfl hv hcv
            have hnew : VR R (.own e3 o3 l3) (st.key q) [yv] := by
              simp only [VR, OR]
              rcases hcase with ⟨rfl, hval, hρ⟩ | ⟨b, cap, arr, el, hval, a2, a3, a4, hρ, a5⟩
              · exact .inl ⟨hρ, rfl, by rw [hval]⟩
              · exact .inr ⟨b, cap, arr, el, hρ, by rw [hval], a2, a3, by rw [h.hh]; exact a4, a5⟩
            refine ⟨_, st2, _, hw, h2, hl2, hh2, ?_, ?_⟩
            · intro i v' val hi hs
              refine SV.mv_other (Key.apart_symm (hap _ (isHand_hand st i))) (hand_apart st hi) ?_ hs
              intro T e hT; rw [fl_under hT, h.fl_hand] at e; simp at e
            · show VR _ _ _ _
              refine VR.mv_self (A := st.key q) (B := st.hand 1) hlv (q := []) ?_ hnew
              intro T _ e hT; rw [fl_under hT, h.fl_hand] at e; simp at e
          · rw [if_neg he] at hw; exact hw.elim
        · exact hw.elim
    · exact hw.elim
  · exact ⟨_, st, R, hw, h, rfl, fun _ => rfl, Kept.refl _ _ _, hv⟩

theorem takeMore_ok {C : Orc} {w0 : Base} {w : World} {st : St} {a : Act} {ts : List (Array Value)} {R : Cx} (h : Rel w0 st (a.tmps :: ts) R w) {x : Operand} {k : AV → St → Prop} (hw : ((takeOp x).bind ownMore).wp C st k) :
    ∃ v st1 R1, k v st1 ∧ Rel w0 st1 (a.tmps :: ts) R1 w ∧ st1.length = st.length ∧ (∀ i, st1.hand i = st.hand i) ∧ Kept R R1 st 1 ∧ SV R1 v (st.hand 1) (a.eval x) := by
  rw [M.wp_bind] at hw
  replace hw := takeOp_ok h hw 1
  obtain ⟨v, st1, R1, hw, h1, hl1, hh1, hk1, hv⟩ := hw
  rw [← hh1 1] at hv
  obtain ⟨u, st2, R2, hw, h2, hl2, hh2, hk2, hu⟩ := ownMore_ok h1 hv hw
  refine ⟨u, st2, R2, hw, h2, hl2.trans hl1, fun i => (hh2 i).trans (hh1 i), ?_, by rw [← hh1 1]; exact hu⟩
  intro i v' val hi hs
  have := hk2 i v' val hi (by rw [hh1 i]; exact hk1 i v' val hi hs)
  rw [hh1 i] at this
  exact this

theorem segI_keptU {R R' : Cx} {st : St} (hk : KeptU R R' st 1) {e : Sh} {o : Ow} : ∀ (l : List e.den) (i : Nat) (cs : List Value), SegI (fun i x c => OR R e o ((st.hand 1).child (.ix i e.size)) x c) i l cs → SegI (fun i x c => OR R' e o ((st.hand 1).child (.ix i e.size)) x c) i l cs :=
  fun l i cs h => segI_imp l i cs (fun j x c _ _ hx => (unpack_VR _ _ _ _ _).1 (hk _ _ _ (Key.child_under _ _) ((unpack_VR _ _ _ _ _).2 hx))) h

theorem More.mono {P : Program} {R R' : Cx} {st st' : St} (hh : ∀ i, st'.hand i = st.hand i) (hk : KeptU R R' st 1) {w : World} {e : Sh} {o : Ow} {l : List e.den} {yv : Value} {news : List Value} (h : More P R st w e o l yv news) : More P R' st' w e o l yv news :=
  ⟨h.val, h.len, h.one, by rw [hh]; exact segI_keptU hk l 0 _ h.seg⟩

theorem MoreV.mono {P : Program} {R R' : Cx} {st st' : St} (hh : ∀ i, st'.hand i = st.hand i) (hk : KeptU R R' st 1) {w : World} {e : Sh} {yv : Value} {u : AV} (h : MoreV P R st w e yv u) : MoreV P R' st' w e yv u := by
  cases u with
  | d s l => obtain ⟨h, news, hm⟩ := h; exact ⟨h, news, hm.mono hh hk⟩
  | own e' o l => obtain ⟨h, news, hm⟩ := h; exact ⟨h, news, hm.mono hh hk⟩
  | nils => exact h
  | _ => exact h.elim

theorem OpOk.append {P : Program} {E : Env} (hE : EnvOk P E) {C : Orc} {o : Oper} {c : Call} (ho : o.op = .call c) (hc : c.callee = .builtin .append) : OpOk P E C o := by
  intro w0 st a ts R w k next Q h hw hn
  simp only [evOp, ho, callAV, hc] at hw
  split at hw
  · rename_i x y t t' hargs htys
    by_cases htt : t' = t
    · rw [if_pos htt] at hw
      subst htt
      split at hw
      · rename_i e hs
        rw [M.wp_bind] at hw
        obtain ⟨v, hk, ⟨K, hK, hv⟩, hq1, hq2⟩ := rawOp_ok h hw
        rw [M.wp_bind] at hk
        replace hk := takeMore_ok h hk
        obtain ⟨vy, st1, R1, hk, h1, hl1, hh1, hkept1, hvy⟩ := hk
        rw [← hh1 1] at hvy
        rw [M.wp_bind] at hk
        replace hk := moreAV_ok (P := P) h1 hvy hk
        obtain ⟨more, hk, hmore⟩ := hk
        rw [M.wp_bind] at hk
        -- what is appended to comes into hand 0
        have base : ∃ (vx : AV) (st2 : St) (R2 : Cx), Rel w0 st2 (a.tmps :: ts) R2 w ∧ MoreV P R2 st2 w e (a.eval y) more ∧ (vx.isBad = false → VR R2 vx (st2.hand 0) [a.eval x]) ∧
            (match vx with | .own e1 o1 l => if e1 = e then (appendTo (E.bytes t') e1 o1 l more).bind (dstT o) else .fail | _ => .fail : M Unit).wp C st2 k := by
          split at hk
          · replace hk := takeOp_keptU h1 hk 0 1 (by omega)
            obtain ⟨vx, st2, R2, hk, h2, hl2, hh2, hkept2, hvx⟩ := hk
            refine ⟨vx, st2, R2, h2, hmore.mono hh2 hkept2, fun hb => ?_, hk⟩
            rw [hh2 0]
            obtain ⟨b1, b2⟩ := AV.notBad hb
            cases hg : vx.isAgg with
            | true => cases vx <;> simp [AV.isAgg] at hg <;> exact hk.elim
            | false => rw [SV_VV b2, VV_iff b1, hg] at hvx; exact hvx
          · rename_i q e1
            by_cases he : e1 = e
            · rw [if_pos he] at hk
              subst he
              have hv1 : SV R1 (.vw q e1) (st1.hand 0) (a.eval x) := by
                have hv0 : SV R (.vw q e1) (st.hand 0) (a.eval x) := SV.move rfl (by rw [hK]; rfl) hv
                rw [hh1 0]; exact hkept1 0 _ _ (by omega) hv0
              replace hk := takePl_ok h1 hk (isHand_hand st1 0)
              obtain ⟨vx, st2, hk, hl2, hh2, h2, hx, hlv, hap⟩ := hk
              have hkU : KeptU R1 (R1.mv (st1.key q) (st1.hand 0)) st1 1 := by
                intro K v cs hK hv
                refine VR.mv_other (AV.le_refl _) (Key.apart_sub (Key.apart_symm (hap _ (isHand_hand st1 1))) hK) (Key.apart_sub (hand_apart st1 (by omega)) hK) ?_ hv
                intro T _ e hT; rw [fl_under hT, h1.fl_hand] at e; simp at e
              refine ⟨vx, st2, _, h2, hmore.mono hh2 hkU, fun hb => ?_, hk⟩
              cases vx with
              | own e2 o2 l =>
                by_cases he2 : e2 = e1
                · subst he2
                  obtain ⟨c, hcv⟩ := hx hb
                  obtain ⟨_, hcase⟩ := vw_header h1 rfl hv1 hcv
                  have hnew : VR R1 (.own e2 o2 l) (st1.key q) [a.eval x] := by
                    simp only [VR, OR]
                    rcases hcase with ⟨rfl, hval, hρ⟩ | ⟨b, cap, arr, el, hval, a2, a3, a4, hρ, a5⟩
                    · exact .inl ⟨hρ, rfl, by rw [hval]⟩
                    · exact .inr ⟨b, cap, arr, el, hρ, by rw [hval], a2, a3, by rw [h1.hh]; exact a4, a5⟩
                  rw [hh2 0]
                  refine VR.mv_self (A := st1.key q) (B := st1.hand 0) hlv (q := []) ?_ hnew
                  intro T _ e hT; rw [fl_under hT, h1.fl_hand] at e; simp at e
                · simp only [if_neg he2] at hk; exact hk.elim
              | _ => exact hk.elim
            · rw [if_neg he] at hk; exact hk.elim
          · obtain ⟨R2, h2, hz, hkz⟩ := h1.zeroAt (isHand_hand st1 0) E.nest (.sl e)
            refine ⟨.own e (e.low E.nest) [], st1, R2, h2, hmore.mono (fun _ => rfl) (fun K v cs hK hv => hkz K v cs (Key.apart_sub (hand_apart st1 (by omega)) hK) hv), fun _ => ?_, hk⟩
            have hd : [a.eval x] = [Value.slice none 0 0] := hv
            rw [hd]
            exact hz
          · exact hk.elim
        obtain ⟨vx, st2, R2, h2, hmore2, hvx, hk2⟩ := base
        clear hk
        split at hk2
        · rename_i e1 o1 l
          by_cases he : e1 = e
          · rw [if_pos he, M.wp_bind] at hk2
            subst he
            have hvx := hvx rfl
            have fin : ∀ (l' : List e1.den) (news : List Value), More P R2 st2 w e1 o1 l' (a.eval y) news → (l' = [] ∨ ((l.length + l'.length) * E.bytes t' ≤ 140737488355328 ∧ l.length + l'.length ≤ maxLen)) →
                (dstT o (.own e1 o1 (l ++ l'))).wp C st2 k → o.wp P a w next Q := by
              intro l' news hm hb hk
              obtain ⟨R3, w', rv, hrun, h3, hv3⟩ := append_run hE h2 hs hvx hm hb o.type
              obtain ⟨st4, R4, hk, h4⟩ := dstT_ok h3 hk (j := 0) (val := rv) hv3
              have hrun' : (execOp a.eval o).run P w = .ok (.value rv) w' := by
                simp only [execOp, ho, resolve, hc, hargs, htys, invoke, builtin]
                simp [hrun]
              simp only [Oper.wp, hrun', Oper.upon]
              exact hn _ st4 R4 _ (put_defers _ _ _) h4 hk
            unfold appendTo at hk2
            split at hk2
            · rename_i e' l'
              split at hk2
              · rename_i hcc
                obtain ⟨rfl, rfl⟩ := hcc
                obtain ⟨⟨g1, g2⟩, hk2⟩ := hk2
                obtain ⟨_, news, hm⟩ := hmore2
                exact fin _ news hm (.inr ⟨g1, g2⟩) hk2
              · exact hk2.elim
            · rename_i e' o' l'
              split at hk2
              · rename_i hcc
                obtain ⟨rfl, rfl⟩ := hcc
                obtain ⟨⟨g1, g2⟩, hk2⟩ := hk2
                obtain ⟨_, news, hm⟩ := hmore2
                exact fin _ news hm (.inr ⟨g1, g2⟩) hk2
              · exact hk2.elim
            · have hy : a.eval y = .slice none 0 0 := hmore2
              refine fin [] [] ⟨⟨none, 0, hy, .inl rfl⟩, by simp, by simp, trivial⟩ (.inl rfl) ?_
              rw [List.append_nil]; exact hk2
            · exact hk2.elim
          · rw [if_neg he] at hk2; exact hk2.elim
        · exact hk2.elim
      · exact hw.elim
    · rw [if_neg htt] at hw
      split at hw
      · rename_i e hs hsn
        rw [M.wp_bind] at hw
        obtain ⟨v, hk, ⟨K, hK, hv⟩, hq1, hq2⟩ := rawOp_ok h hw
        rw [M.wp_bind] at hk
        replace hk := rawOp_ok h hk
        obtain ⟨u, hk, ⟨K', hK', hu⟩, hq3, hq4⟩ := hk
        rw [M.wp_bind] at hk
        have base : ∃ (vx : AV) (st2 : St) (R2 : Cx), Rel w0 st2 (a.tmps :: ts) R2 w ∧ (vx.isBad = false → vx.isAgg = false → VR R2 vx (st2.hand 0) [a.eval x]) ∧ (zFin E o t e u vx).wp C st2 k := by
          unfold zTake at hk
          split at hk
          · replace hk := takeOp_ok h hk 0
            obtain ⟨vx, st2, R2, hk, h2, hl2, hh2, hkept2, hvx⟩ := hk
            refine ⟨vx, st2, R2, h2, fun hb hg => ?_, hk⟩
            rw [hh2 0]
            obtain ⟨b1, b2⟩ := AV.notBad hb
            rw [SV_VV b2, VV_iff b1, hg] at hvx; exact hvx
          · rename_i q e1
            by_cases he : e1 = e
            · rw [if_pos he] at hk
              subst he
              have hv1 : SV R (.vw q e1) (st.hand 0) (a.eval x) := SV.move rfl (by rw [hK]; rfl) hv
              replace hk := takePl_ok h hk (isHand_hand st 0)
              obtain ⟨vx, st2, hk, hl2, hh2, h2, hx, hlv, hap⟩ := hk
              by_cases hf : ∃ l, vx = .own e1 .fz l
              · obtain ⟨l, rfl⟩ := hf
                refine ⟨_, st2, _, h2, fun hb hg => ?_, hk⟩
                obtain ⟨c, hcv⟩ := hx hb
                obtain ⟨_, hcase⟩ := vw_header h rfl hv1 hcv
                have hnew : VR R (.own e1 .fz l) (st.key q) [a.eval x] := by
                  simp only [VR, OR]
                  rcases hcase with ⟨rfl, hval, hρ⟩ | ⟨b, cap, arr, el, hval, a2, a3, a4, hρ, a5⟩
                  · exact .inl ⟨hρ, rfl, by rw [hval]⟩
                  · exact .inr ⟨b, cap, arr, el, hρ, by rw [hval], a2, a3, by rw [h.hh]; exact a4, segI_imp l 0 _ (fun j x c _ _ hx => OR_fz.1 hx) a5⟩
                rw [hh2 0]
                refine VR.mv_self (A := st.key q) (B := st.hand 0) hlv (q := []) ?_ hnew
                intro T _ e hT; rw [fl_under hT, h.fl_hand] at e; simp at e
              · exfalso
                unfold zFin at hk
                split at hk
                · rename_i e2 l
                  by_cases he2 : e2 = e1
                  · subst he2; exact hf ⟨l, rfl⟩
                  · rw [if_neg he2] at hk; exact hk.elim
                · exact hk.elim
            · rw [if_neg he] at hk; exact hk.elim
          · obtain ⟨R2, h2, hz, hkz⟩ := h.zeroAt (isHand_hand st 0) false (.sl e)
            refine ⟨.own e .fz [], st, R2, h2, fun _ _ => ?_, hk⟩
            have hd : [a.eval x] = [Value.slice none 0 0] := hv
            rw [hd]
            exact hz
          · exact hk.elim
        obtain ⟨vx, st2, R2, h2, hvx, hk2⟩ := base
        clear hk
        unfold zFin at hk2
        split at hk2
        · rename_i e1 l
          by_cases he : e1 = e
          · rw [if_pos he] at hk2
            subst he
            have hvx := hvx rfl rfl
            unfold zNum at hk2
            split at hk2
            · rename_i n
              obtain ⟨⟨g1, g2, g3⟩, hk2⟩ := hk2
              have eu := SV_int hu
              obtain ⟨R3, w', rv, hrun, h3, hv3⟩ := appendZ_run hE h2 hs hsn hvx ⟨g2, g3⟩ o.type
              obtain ⟨st4, R4, hk, h4⟩ := dstT_ok h3 hk2 (j := 0) (val := rv) hv3
              have en : ((n.toNat : Nat) : Int) = n := Int.toNat_of_nonneg g1
              rw [en] at hrun
              have hrun' : (execOp a.eval o).run P w = .ok (.value rv) w' := by
                simp only [execOp, ho, resolve, hc, hargs, htys, invoke, builtin]
                simp [hrun, eu]
              simp only [Oper.wp, hrun', Oper.upon]
              exact hn _ st4 R4 _ (put_defers _ _ _) h4 hk
            · exact hk2.elim
          · rw [if_neg he] at hk2; exact hk2.elim
        · exact hk2.elim
      · exact hw.elim
  · exact hw.elim

end Go.Proofs.Ytlndfmmigndgeaa.Ev

/- Views of own places are taken out of them: results, parts of literal slices. -/
namespace Go.Proofs.Ytlndfmmigndgeaa.Ev
open Go
set_option linter.unusedSimpArgs false
set_option linter.unusedVariables false

theorem resolve_ok {C : Orc} {w0 : Base} {w : World} {ts : List (Array Value)} : ∀ {v : AV} {st : St} {R : Cx} (h : Rel w0 st ts R w) {K : Key} (hK : st.isHand K) {cs : List Value} (hv : VR R v K cs) {k : AV → St → Prop}, (v.resolve).wp C st k →
    ∃ u st1 R1, k u st1 ∧ Rel w0 st1 ts R1 w ∧ st1.length = st.length ∧ (∀ i, st1.hand i = st.hand i) ∧ u.size = v.size ∧ u.isAgg = v.isAgg ∧ (v.isBad = false → u.isBad = false) ∧ VR R1 u K cs ∧
      (∀ (K' : Key) v' cs', st.isHand K' → K'.apart K → VR R v' K' cs' → VR R1 v' K' cs') := by
  intro v
  induction v with
  | vw q e =>
    intro st R h K hK cs hv k hw
    simp only [AV.resolve] at hw
    by_cases hk0 : q.r.k = 0
    case neg =>
      rw [if_neg hk0] at hw
      exact ⟨_, st, R, hw, h, rfl, fun _ => rfl, rfl, rfl, id, hv, fun _ _ _ _ _ => id⟩
    rw [if_pos hk0, M.wp_bind] at hw
    replace hw := takePl_ok h hw hK
    obtain ⟨x, st1, hw, hl, hh, h1, hx, hlv, hap⟩ := hw
    split at hw
    · rename_i e' o l
      by_cases he : e' = e
      · rw [if_pos he] at hw
        subst he
        obtain ⟨c, hc⟩ := hx rfl
        obtain ⟨u, rfl, hs, hvv⟩ := hv
        have hv' : SV R (.vw q e') K u := ⟨u, rfl, hs, hvv⟩
        obtain ⟨_, hcase⟩ := vw_header h hK.1 hv' hc
        have hnew : VR R (.own e' o l) (st.key q) [u] := by
          simp only [VR, OR]
          rcases hcase with ⟨rfl, hval, hρ⟩ | ⟨b, cap, arr, el, hval, a2, a3, a4, hρ, a5⟩
          · exact .inl ⟨hρ, rfl, by rw [hval]⟩
          · exact .inr ⟨b, cap, arr, el, hρ, by rw [hval], a2, a3, by rw [h.hh]; exact a4, a5⟩
        have nh : ∀ T : Key, R.fl T.lv T.s T.bx = true → ¬ T.under K := by
          intro T e hT; rw [isHand_fl h (isHand_under hT hK)] at e; simp at e
        refine ⟨_, st1, _, hw, h1, hl, hh, rfl, rfl, fun _ => rfl, ?_, ?_⟩
        · exact VR.mv_self (A := st.key q) (B := K) hlv (q := []) (fun T _ e => nh T e) hnew
        · intro K' v' cs' hK' hap' hv'
          exact VR.mv_other (AV.le_refl _) (Key.apart_symm (hap K' hK')) hap' (fun T _ e => nh T e) hv'
      · rw [if_neg he] at hw; exact hw.elim
    · exact hw.elim
  | pair a b iha ihb =>
    intro st R h K hK cs hv k hw
    simp only [AV.resolve, M.wp_bind] at hw
    obtain ⟨c1, c2, rfl, g1, g2⟩ := hv
    have hKl : st.isHand (K.child .l) := isHand_under (Key.child_under _ _) hK
    have hKr : st.isHand (K.child (.r a.size)) := isHand_under (Key.child_under _ _) hK
    have hlr : (K.child .l).apart (K.child (.r a.size)) := Key.child_apart (by simp)
    obtain ⟨x, st1, R1, hw, h1, hl1, hh1, s1, _, _, v1, k1⟩ := iha h hKl g1 hw
    have g2' := k1 _ _ _ hKr (Key.apart_symm hlr) g2
    have hand1 : ∀ K', st.isHand K' → st1.isHand K' := by
      intro K' hK'
      have e0 := hh1 0
      simp only [St.hand, Key.mk.injEq, and_true] at e0
      exact ⟨by rw [hK'.1, hl1], by have := hK'.2.1; omega, hK'.2.2⟩
    obtain ⟨y, st2, R2, hw, h2, hl2, hh2, s2, _, _, v2, k2⟩ := ihb h1 (hand1 _ hKr) g2' hw
    refine ⟨_, st2, R2, hw, h2, hl2.trans hl1, fun i => (hh2 i).trans (hh1 i), by simp only [AV.size, s1, s2], rfl, fun _ => rfl, ?_, ?_⟩
    · exact ⟨c1, c2, rfl, k2 _ _ _ (hand1 _ hKl) hlr v1, by rw [s1]; exact v2⟩
    · intro K' v' cs' hK' hap hv'
      exact k2 _ _ _ (hand1 _ hK') (fun T hT hT' => hap T hT (Key.under_trans hT' (Key.child_under _ _))) (k1 _ _ _ hK' (fun T hT hT' => hap T hT (Key.under_trans hT' (Key.child_under _ _))) hv')
  | _ =>
    intro st R h K hK cs hv k hw
    exact ⟨_, st, R, hw, h, rfl, fun _ => rfl, rfl, rfl, id, hv, fun _ _ _ _ _ => id⟩

theorem isHand_of {st st1 : St} (hl : st1.length = st.length) (hh : ∀ i, st1.hand i = st.hand i) {K : Key} : st1.isHand K ↔ st.isHand K := by
  have e0 := hh 0
  simp only [St.hand, Key.mk.injEq, and_true] at e0
  simp only [St.isHand, hl]
  constructor
  · rintro ⟨a, b, c⟩; exact ⟨a, by omega, c⟩
  · rintro ⟨a, b, c⟩; exact ⟨a, by omega, c⟩

theorem tupR_frameH {R R1 : Cx} : ∀ {a : AV} {K : Key} {us : List Value}, (∀ K' v' cs', K'.under K → VR R v' K' cs' → VR R1 v' K' cs') → TupR R a K us → TupR R1 a K us := by
  have vv : ∀ {R R1 : Cx} {a : AV} {K : Key} {u : Value}, (∀ v' cs', VR R v' K cs' → VR R1 v' K cs') → VV R a K u → VV R1 a K u := by
    intro R R1 a K u hf h
    by_cases hu : a = .undef
    · subst hu; trivial
    · rw [VV_iff hu] at h ⊢
      split at h
      · rename_i hg; rw [if_pos hg]; obtain ⟨arr, e, h⟩ := h; exact ⟨arr, e, hf _ _ h⟩
      · rename_i hg; rw [if_neg hg]; exact hf _ _ h
  intro a
  induction a with
  | pair x y ihx ihy =>
    intro K us hf h
    obtain ⟨v, r, rfl, h1, h2⟩ := h
    exact ⟨v, r, rfl, vv (fun v' cs' => hf _ v' cs' (Key.child_under _ _)) h1, ihy (fun K' v' cs' hK => hf K' v' cs' (Key.under_trans hK (Key.child_under _ _))) h2⟩
  | unit => intro K us _ h; exact h
  | _ => intro K us _ h; exact h.elim

theorem SV_frameH {R R1 : Cx} {a : AV} {K : Key} {u : Value} (hf : ∀ K' v' cs', K'.under K → VR R v' K' cs' → VR R1 v' K' cs') (h : SV R a K u) : SV R1 a K u := by
  by_cases ht : ∃ y, a = .tup y
  · obtain ⟨y, rfl⟩ := ht
    obtain ⟨vs, e, h⟩ := h
    exact ⟨vs, e, tupR_frameH hf h⟩
  · have ht : ∀ y, a ≠ .tup y := fun y e => ht ⟨y, e⟩
    rw [SV_VV ht] at h ⊢
    by_cases hu : a = .undef
    · subst hu; trivial
    · rw [VV_iff hu] at h ⊢
      split at h
      · rename_i hg; rw [if_pos hg]; obtain ⟨arr, e, h⟩ := h; exact ⟨arr, e, hf _ _ _ (Key.under_refl _) h⟩
      · rename_i hg; rw [if_neg hg]; exact hf _ _ _ (Key.under_refl _) h

/-- A hand's value, its views of own places taken out of them. -/
theorem resolve_SV {C : Orc} {w0 : Base} {w : World} {ts : List (Array Value)} {v : AV} {st : St} {R : Cx} (h : Rel w0 st ts R w) {j : Nat} {u : Value} (hv : SV R v (st.hand j) u) {k : AV → St → Prop} (hw : (v.resolve).wp C st k) :
    ∃ v' st1 R1, k v' st1 ∧ Rel w0 st1 ts R1 w ∧ st1.length = st.length ∧ (∀ i, st1.hand i = st.hand i) ∧ Kept R R1 st j ∧ SV R1 v' (st.hand j) u := by
  by_cases hb : v.isBad = true
  · have e : v.resolve = .pure v := by cases v <;> first | rfl | (simp [AV.isBad] at hb)
    rw [e] at hw
    exact ⟨v, st, R, hw, h, rfl, fun _ => rfl, Kept.refl _ _ _, hv⟩
  have hb : v.isBad = false := by simpa using hb
  obtain ⟨b1, b2⟩ := AV.notBad hb
  have fr : ∀ {R1 : Cx}, (∀ (K' : Key) v' cs', st.isHand K' → K'.apart (st.hand j) → VR R v' K' cs' → VR R1 v' K' cs') → Kept R R1 st j := by
    intro R1 hf i v val hij hv
    exact SV_frameH (fun K' v' cs' hK => hf K' v' cs' (isHand_under hK (isHand_hand st i)) (fun T h1 h2 => hand_apart st hij T (Key.under_trans h1 hK) h2)) hv
  rw [SV_VV b2, VV_iff b1] at hv
  split at hv
  · rename_i hg
    obtain ⟨arr, e, hv⟩ := hv
    obtain ⟨v', st1, R1, hk, h1, hl, hh, s1, s2, s3, hv', hf⟩ := resolve_ok h (isHand_hand st j) hv hw
    refine ⟨v', st1, R1, hk, h1, hl, hh, fr hf, ?_⟩
    obtain ⟨d1, d2⟩ := AV.notBad (s3 hb)
    rw [SV_VV d2, VV_iff d1, s2, if_pos hg]
    exact ⟨arr, e, hv'⟩
  · rename_i hg
    obtain ⟨v', st1, R1, hk, h1, hl, hh, s1, s2, s3, hv', hf⟩ := resolve_ok h (isHand_hand st j) hv hw
    refine ⟨v', st1, R1, hk, h1, hl, hh, fr hf, ?_⟩
    obtain ⟨d1, d2⟩ := AV.notBad (s3 hb)
    rw [SV_VV d2, VV_iff d1, s2, if_neg hg]
    exact hv'

theorem takePartsV_ok {C : Orc} {a : Act} {w0 : Base} {w : World} {ts : List (Array Value)} : ∀ (ps : List (Nat × Operand)) (j : Nat) {st : St} {R : Cx} (h : Rel w0 st (a.tmps :: ts) R w) {k : List (Nat × AV) → St → Prop}, (takePartsV ps).wp C st k →
    ∃ vs st1 R1, k vs st1 ∧ Rel w0 st1 (a.tmps :: ts) R1 w ∧ st1.length = st.length ∧ (∀ i, st1.hand i = st.hand i) ∧ (∀ i v u, i < j → SV R v (st.hand i) u → SV R1 v (st.hand i) u) ∧ PartsR R1 st1 j (ps.map fun x => (x.1, a.eval x.2)) vs := by
  intro ps
  induction ps with
  | nil => intro j st R h k hw; exact ⟨[], st, R, hw, h, rfl, fun _ => rfl, fun _ _ _ _ => id, trivial⟩
  | cons p ps ih =>
    intro j st R h k hw
    obtain ⟨i, x⟩ := p
    simp only [takePartsV, M.wp_bind] at hw
    obtain ⟨v, st0, R0, hk, h0, hl0, hh0, hkept0, hv⟩ := takeOp_ok h hw j
    rw [← hh0 j] at hv
    obtain ⟨v, st1, R1, hk, h1, hl, hh, hkept, hv⟩ := resolve_SV h0 hv hk
    replace hk := ih (j + 1) h1 hk
    obtain ⟨vs, st2, R2, hk, h2, hl2, hh2, hkept2, hps⟩ := hk
    refine ⟨_, st2, R2, hk, h2, hl2.trans (hl.trans hl0), fun i => (hh2 i).trans ((hh i).trans (hh0 i)), ?_, rfl, ?_, hps⟩
    · intro i v u hi hv
      have := hkept0 i v u (by omega) hv
      rw [← hh0 i] at this
      have := hkept i v u (by omega) this
      rw [← hh i] at this
      have := hkept2 i v u (by omega) this
      rwa [hh i, hh0 i] at this
    · rw [hh2 j]
      rw [← hh j] at hv
      exact hkept2 j v _ (by omega) hv

theorem OpOk.buildSlice {P : Program} {E : Env} (hE : EnvOk P E) {C : Orc} {o : Oper} {t : TypeId} {n : Nat} {ps : Array (Nat × Operand)} (ho : o.op = .buildSlice t n ps) : OpOk P E C o := by
  intro w0 st a ts R w k next Q h hw hn
  simp only [evOp, ho] at hw
  split at hw
  · rename_i e hs
    rw [M.wp_bind] at hw
    obtain ⟨vs, st1, R1, hk, h1, hl, hh, _, hps⟩ := takePartsV_ok _ 1 h hw
    by_cases hc : vs.length = n ∧ vs.map (·.1) = List.range n ∧ n * e.size ≤ 16777216
    · rw [if_pos hc, M.wp_bind] at hk
      obtain ⟨c1, c2, c3⟩ := hc
      replace hk := elems_wp hk
      obtain ⟨l, hk, hl⟩ := hk
      obtain ⟨et, ie, u1, u2, u3, u4, u5, _⟩ := sl_info hE hs
      obtain ⟨i', z, u6, _, hz, hzc⟩ := tyB_info (hE.sh _ _ u2)
      rw [u4] at u6
      cases u6
      have hlen := hl.length
      simp only [List.length_map] at hlen
      have hidx := partsR_idx hps
      let us := ps.toList.map fun x => (x.1, a.eval x.2)
      have hus : us.length = n := by
        have := congrArg List.length hidx
        simp only [List.length_map] at this
        simp only [us, List.length_map]; omega
      let cells : Array Value := (us.flatMap fun u => u.2.cells.toList).toArray
      have hsizes := partsR_sizes hps hl
      have hcs : cells.size = n * e.size := by
        have key : ∀ us : List (Nat × Value), (∀ v ∈ us.map (·.2), v.cells.size = e.size) → (us.flatMap fun u => u.2.cells.toList).length = us.length * e.size := by
          intro us
          induction us with
          | nil => intro _; simp
          | cons u us ih =>
            intro h
            have h1 := h u.2 (by simp)
            have h2 := ih (fun v hv => h v (by simp only [List.map_cons, List.mem_cons]; exact .inr hv))
            simp only [List.flatMap_cons, List.length_append, h2, List.length_cons, Nat.succ_mul, Array.length_toList, h1]; omega
        have := key us hsizes
        rw [hus] at this
        simpa [cells] using this
      -- what the machine does
      have hparts : (ps.map fun (i, x) => (i, a.eval x)).toList = us := by rw [Array.toList_map]
      have huz : us = ((us.map (·.2)).zipIdx 0).map fun x => (x.2, x.1) := zip_of_idx us 0 (by rw [hidx, c2, hus, List.range_eq_range'])
      have hfmap : (us.map (·.2)).flatMap (fun v => v.cells.toList) = us.flatMap fun u => u.2.cells.toList := by rw [List.flatMap_map]
      have hrun : (Instr.buildSlice t n (ps.map fun (i, x) => (i, a.eval x))).run P w = .ok (.slice (some ⟨w.heap.size, 0, none⟩) n n) (w.alloc (.cells cells et)) := by
        by_cases hn0 : n = 0
        · have : us = [] := by rw [← List.length_eq_zero_iff, hus, hn0]
          have hcells : cells = #[] := by simp [cells, this]
          have hpe : (ps.map fun (i, x) => (i, a.eval x)).toList = [] := by rw [hparts, this]
          rw [hcells, hn0]
          simp only [Instr.buildSlice, Sem.run_bind, run_underlying u1, Result.andThen_ok, run_size u4, Nat.zero_mul, hpe]
          simp [Instr.fill, newRow, Array.range_zero']
        · have hpos : ¬ n * ie.size = 0 := by
            rw [u5]; intro e0
            rcases Nat.mul_eq_zero.1 e0 with e0 | e0
            · exact hn0 e0
            · exact u3 e0
          refine run_buildSlice w t et n _ cells ie z u1 u4 hz (by rw [u5]; omega) hpos ?_
          rw [hparts]
          have := Great.fill_whole (s := ie.size) (by rw [u5]; omega) (us.map (·.2)) ((Array.range (n * ie.size)).map (z.cells[· % z.cells.size]!)) (by rw [u5]; exact hsizes) (by simp [hus])
          rw [← huz, hfmap] at this
          exact this
      have hrun' : (execOp a.eval o).run P w = .ok (.value (.slice (some ⟨w.heap.size, 0, none⟩) n n)) (w.alloc (.cells cells et)) := by
        simp only [execOp, ho, Sem.run_bind, hrun, Result.andThen_ok]; rfl
      have seg : ∃ R2, Rel w0 st1 (a.tmps :: ts) R2 w ∧ SegI (fun i x c => OR R2 e (e.low E.nest) ((st1.hand 0).child (.ix i e.size)) x c) 0 l cells.toList := by
        cases hne : E.nest with
        | false => rw [hne] at hl; exact ⟨_, h1.freezeHands, elems_fz h1 hps hl _ 0⟩
        | true =>
          rw [hne] at hl
          obtain ⟨R2, r1, r2, _⟩ := elems_ow (isHand_hand st1 0) rfl (i := 0) h1 (Nat.le_refl 1) hps hl
          exact ⟨R2, r1, r2⟩
      obtain ⟨R2, h2, hseg⟩ := seg
      obtain ⟨R3, h3, hv, _⟩ := h2.ownNew (isHand_hand st1 0) et (cap := n) (by omega) (by rw [hcs]; exact Nat.le_refl _) hseg
      have hln : l.length = n := by omega
      rw [hln] at hv
      obtain ⟨st2, R4, hk, h4⟩ := dstT_ok h3 hk (j := 0) (val := .slice (some ⟨w.heap.size, 0, none⟩) n n) hv
      simp only [Oper.wp, hrun', Oper.upon]
      exact hn _ st2 R4 _ (put_defers _ _ _) h4 hk
    · rw [if_neg hc] at hk; exact hk.elim
  · exact hw.elim

/-! ### make -/

theorem OpOk.store {P : Program} {E : Env} (hE : EnvOk P E) {C : Orc} {o : Oper} {t : TypeId} {p x : Operand} (ho : o.op = .store t p x) : OpOk P E C o := by
  intro w0 st a ts R w k next Q h hw hn
  simp only [evOp, ho] at hw
  by_cases hdst : o.dst.isSome = true
  · rw [if_pos hdst] at hw; exact hw.elim
  rw [if_neg hdst] at hw
  have hdst : o.dst = none := by simpa using hdst
  simp only [M.wp_bind] at hw
  obtain ⟨vp, hk, ⟨K, hK, hp⟩, hq1, hq2⟩ := rawOp_ok h hw
  replace hk := takeOp_ok h hk 0
  obtain ⟨v, st1, R1, hk, h1, hl, hh, hkept, hv⟩ := hk
  rw [← hh 0] at hv
  replace hk := typed_ok h1 hk hv
  obtain ⟨u, R2, hk, h2, hkept2, hv⟩ := hk
  have hown : vp.hasOwn = false ∨ ixIn ((match vp with | .ptr q => q.p | _ => [])) = false := by
    cases vp <;> first | exact .inl rfl | exact .inr rfl
  have hres : ∃ u' st2 R3, (if E.sz t = some (u'.size, u'.isAgg) then storeAV u' vp else .fail : M Unit).wp C st2 k ∧ Rel w0 st2 (a.tmps :: ts) R3 w ∧ st2.length = st1.length ∧ (∀ i, st2.hand i = st1.hand i) ∧ Kept R2 R3 st1 0 ∧ SV R3 u' (st1.hand 0) (a.eval x) := by
    cases vp with
    | ptr q =>
      simp only [stRes] at hk
      by_cases hq : ixIn q.p = true
      · rw [if_pos hq] at hk
        obtain ⟨u', st2, R3, hk, g1, g2, g3, g4, g5⟩ := resolve_SV h2 hv hk
        exact ⟨u', st2, R3, hk, g1, g2, g3, g4, g5⟩
      · rw [if_neg hq] at hk
        exact ⟨u, st1, R2, hk, h2, rfl, fun _ => rfl, Kept.refl _ _ _, hv⟩
    | _ => exact ⟨u, st1, R2, hk, h2, rfl, fun _ => rfl, Kept.refl _ _ _, hv⟩
  clear hk hown
  obtain ⟨u, st2, R3, hk, h3, hl2, hh2, hkept3, hv⟩ := hres
  rw [← hh2 0] at hv
  by_cases hs : E.sz t = some (u.size, u.isAgg)
  · rw [if_pos hs] at hk
    obtain ⟨i, d, e1, e2, e3, e4⟩ := hE.sz hs
    have hown : vp.hasOwn = false := by
      cases vp <;> first | rfl | exact hk.elim
    have hp1 : SV R vp (st.hand 1) (a.eval p) := SV.move hown (by rw [hK]; rfl) hp
    have hp2 : SV R2 vp (st1.hand 1) (a.eval p) := hkept2 1 _ _ (by omega) (by rw [hh 1]; exact hkept 1 _ _ (by omega) hp1)
    have hp3 : SV R3 vp (st2.hand 1) (a.eval p) := by rw [hh2 1]; exact hkept3 1 _ _ (by omega) hp2
    obtain ⟨st', R', w', hk, hR, hrun⟩ := storeAV_ok (P := P) h3 hv ⟨_, rfl, hp3⟩ hk e1 e2
    have hrun' : (execOp a.eval o).run P w = .ok .skip w' := by
      simp only [execOp, ho, Sem.run_bind, hrun, Result.andThen_ok]; rfl
    simp only [Oper.wp, hrun', Oper.upon, hdst]
    exact hn a st' R' w' rfl hR hk
  · rw [if_neg hs] at hk; exact hk.elim

end Go.Proofs.Ytlndfmmigndgeaa.Ev

/- A field of an owned temporary; the operation 'field'. -/
namespace Go.Proofs.Ytlndfmmigndgeaa.Ev
open Go
set_option linter.unusedSimpArgs false
set_option linter.unusedVariables false

theorem takePl_part {C : Orc} {st : St} {s : Nat} {p : List Stp} {K : AV → St → Prop} (h : (takePl ⟨⟨0, s, false⟩, p.reverse⟩).wp C st K) :
    ∃ sl x0, st.get 0 s = some sl ∧ PartP p sl.v (fun u => u = x0) ∧ (takePl ⟨⟨0, s, false⟩, p.reverse⟩).wp C st (fun u st' => K u st' ∧ u = x0) := by
  simp only [takePl, ne_eq, not_true_eq_false, if_false, M.wp_bind, getPl, M.wp, AV.force_eq, GetP_iff, PutP_iff] at h ⊢
  obtain ⟨sl, h1, x0, h2, sl', h3, w, h4, h5⟩ := h
  exact ⟨sl, x0, h1, by simpa [Slot.at] using h2, sl, h1, x0, h2, sl', h3, w, h4, h5, rfl⟩

theorem takeFld_ok {P : Program} {E : Env} (hE : EnvOk P E) {C : Orc} {o : Oper} {t : TypeId} {s n : Nat} (ho : o.op = .field t (.tmp s) n) {w0 : Base} {st : St} {a : Act} {ts : List (Array Value)} {R : Cx} {w : World} {k : Unit → St → Prop} {next : Act → World → Prop} {Q : Exit → Act → World → Prop}
    (h : Rel w0 st (a.tmps :: ts) R w) (hk : (takeFld E o t s n).wp C st k) (hn : ∀ (a' : Act) (st' : St) (R' : Cx) (w' : World), a'.defers = a.defers → Rel w0 st' (a'.tmps :: ts) R' w' → k () st' → next a' w') : o.wp P a w next Q := by
  unfold takeFld at hk
  rw [M.wp_bind] at hk
  replace hk := ofOption_ok hk
  obtain ⟨⟨path, sa⟩, hp, hk⟩ := hk
  simp only [Option.bind_eq_some_iff, Option.map_eq_some_iff, Prod.mk.injEq] at hp
  obtain ⟨s', hs, p', hp, a', ha', rfl, rfl⟩ := hp
  have hfl := fldPath_flat hp
  rw [M.wp_bind] at hk
  obtain ⟨sl, x0, hsl, hpart, hk⟩ := takePl_part hk
  replace hk := takePl_ok h hk (isHand_hand st 0)
  obtain ⟨u, st1, ⟨hk, rfl⟩, hl1, hh1, h1, hx1, hlv, hap⟩ := hk
  have hsa : s'.isAgg = true := by cases s' <;> first | rfl | (simp [fldPath] at hp)
  have hval := h.slot 0 s sl _ hsl rfl
  have hagg : sl.v.isAgg = true := by
    cases s' with
    | pair x y =>
      have : ∃ i r, p' = i :: r ∧ i.isIx = false := by
        cases n with
        | zero => simp only [fldPath, Option.some.injEq] at hp; exact ⟨_, _, hp.symm, rfl⟩
        | succ n => simp only [fldPath, Option.map_eq_some_iff] at hp; obtain ⟨q, _, rfl⟩ := hp; exact ⟨_, _, rfl, rfl⟩
      obtain ⟨i, r, rfl, hi⟩ := this
      simp only [PartP] at hpart
      cases i with
      | ix a b => simp [Stp.isIx] at hi
      | l =>
        cases hv : sl.v <;> rw [hv] at hpart <;> first | rfl | exact hpart.elim | skip
        rename_i t2 x2; cases t2 <;> first | rfl | exact hpart.elim
      | r m =>
        cases hv : sl.v <;> rw [hv] at hpart <;> first | rfl | exact hpart.elim | skip
        rename_i t2 x2; cases t2 <;> first | rfl | exact hpart.elim
    | _ => simp [fldPath] at hp
  have hvu : sl.v ≠ .undef := by intro e; rw [e] at hagg; simp [AV.isAgg] at hagg
  have hvt : ∀ y, sl.v ≠ .tup y := by intro y e; rw [e] at hagg; simp [AV.isAgg] at hagg
  rw [SV_VV hvt, VV_iff hvu, if_pos hagg] at hval
  obtain ⟨arr, hval, hv⟩ := hval
  obtain ⟨u', hu', _, hd⟩ := part_flat (C := C) (st := st) p' hfl (v := sl.v) (k := fun x _ => x = u) (partP_wp.2 hpart)
  subst hu'
  obtain ⟨pre, c, post, harr, hpre, hcv⟩ := hd hv
  have hkey : (st.kv 0 s).ext p' = st.key ⟨⟨0, s, false⟩, p'.reverse⟩ := by simp [Key.ext, St.kv, St.key]
  rw [hkey] at hcv
  have hlen := VR.length hcv
  by_cases hc : u'.size = a'.size ∧ u'.isAgg = a'.isAgg ∧ u'.isBad = false
  · rw [if_pos hc] at hk
    obtain ⟨c1, c2, c3⟩ := hc
    obtain ⟨b1, b2⟩ := AV.notBad c3
    have hcv : VR (R.mv (st.key ⟨⟨0, s, false⟩, p'.reverse⟩) (st.hand 0)) u' (st1.hand 0) c := by
      rw [hh1 0]
      refine VR.mv_self (A := st.key ⟨⟨0, s, false⟩, p'.reverse⟩) (B := st.hand 0) hlv (q := []) ?_ hcv
      intro T _ e hT; rw [fl_under hT, h.fl_hand] at e; simp at e
    obtain ⟨s1, s2⟩ := SV_of_VR hcv b1
    have hval : a.eval (.tmp s) = .agg arr := hval
    obtain ⟨fs, hund, hb⟩ := tyB_fld (hE.sh t s' hs) hsa
    obtain ⟨f, hf1, h2, h3⟩ := fldPath_sh hb hp ha'
    obtain ⟨i, z, hi, hsz, _⟩ := tyB_info (hE.sh _ _ h3)
    obtain ⟨d, hdu, hda⟩ := tyB_agg (hE.sh _ _ h3)
    have hf1 : fs[n]? = some f := by simpa using hf1
    have harr' : arr = (pre ++ c ++ post).toArray := by rw [← harr]
    cases hg : u'.isAgg with
    | true =>
      refine OpOk.value (j := 0) (v := .agg c.toArray) ?_ h1 hk (s1 hg) hn
      simp only [execOp, ho, hval]
      have hagg' : (isAgg f.type).run P w = .ok true w := run_agg hdu (by rw [hda, ← c2]; exact hg) w
      have : (arr.extract f.offset (f.offset + i.size)) = c.toArray := by
        rw [h2, ← hpre, hsz, ← c1, ← hlen, harr']
        apply Array.ext'
        simp [List.take_append, List.drop_append]
      simp [Instr.field, run_underlying hund, hf1, asAgg, part, hagg', run_size hi, this]
    | false =>
      obtain ⟨val, hcval⟩ : ∃ u, c = [u] := by
        rw [AV.size_one hg] at hlen
        exact List.length_eq_one_iff.1 hlen
      refine OpOk.value (j := 0) (v := val) ?_ h1 hk (s2 hg val hcval) hn
      simp only [execOp, ho, hval]
      have hagg' : (isAgg f.type).run P w = .ok false w := run_agg hdu (by rw [hda, ← c2]; exact hg) w
      have : arr[f.offset]? = some val := by
        rw [h2, ← hpre, harr', hcval]; simp
      simp [Instr.field, run_underlying hund, hf1, asAgg, part, hagg', this]
  · rw [if_neg hc] at hk; exact hk.elim


theorem OpOk.field {P : Program} {E : Env} (hE : EnvOk P E) {C : Orc} {o : Oper} {t : TypeId} {x : Operand} {n : Nat} (ho : o.op = .field t x n) : OpOk P E C o := by
  intro w0 st a ts R w k next Q h hw hn
  simp only [evOp, ho, M.wp_bind] at hw
  obtain ⟨v, hk, ⟨K, hK, hv⟩, hq1, hq2⟩ := rawOp_ok h hw
  by_cases hown : (v.hasOwn || !v.isAgg) = true
  · rw [if_pos hown] at hk
    cases x with
    | tmp s =>
      cases hg : v.isAgg with
      | true => simp only [hg] at hk; exact takeFld_ok hE ho h hk hn
      | false => simp only [hg] at hk; exact hk.elim
    | _ => exact hk.elim
  rw [if_neg hown, M.wp_bind] at hk
  simp only [Bool.or_eq_true, Bool.not_eq_true', not_or, Bool.not_eq_true, Bool.not_eq_false] at hown
  obtain ⟨hown, hagg⟩ := hown
  replace hk := ofOption_ok hk
  obtain ⟨⟨path, sa⟩, hp, hk⟩ := hk
  simp only [Option.bind_eq_some_iff, Option.map_eq_some_iff, Prod.mk.injEq] at hp
  obtain ⟨s, hs, p', hp, a', ha', rfl, rfl⟩ := hp
  have hfl := fldPath_flat hp
  rw [M.wp_bind] at hk
  obtain ⟨u, hk, hu, hd⟩ := part_flat p' hfl hk
  by_cases hc : u.size = a'.size ∧ u.isAgg = a'.isAgg ∧ u.isBad = false
  · rw [if_pos hc] at hk
    obtain ⟨c1, c2, c3⟩ := hc
    have hsa : s.isAgg = true := by cases s <;> first | rfl | (simp [fldPath] at hp)
    obtain ⟨fs, hund, hb⟩ := tyB_fld (hE.sh t s hs) hsa
    obtain ⟨f, h1, h2, h3⟩ := fldPath_sh hb hp ha'
    obtain ⟨i, z, hi, hsz, _⟩ := tyB_info (hE.sh _ _ h3)
    obtain ⟨d, hdu, hda⟩ := tyB_agg (hE.sh _ _ h3)
    obtain ⟨b1, b2⟩ := AV.notBad c3
    have hvu : v ≠ .undef := by rintro rfl; simp [AV.isAgg] at hagg
    have hvt : ∀ y, v ≠ .tup y := by rintro y rfl; simp [AV.isAgg] at hagg
    rw [SV_VV hvt, VV_iff hvu, if_pos hagg] at hv
    obtain ⟨arr, hval, hv⟩ := hv
    obtain ⟨pre, c, post, harr, hpre, hcv⟩ := hd hv
    have hlen := VR.length hcv
    have hcv : VR R u (st.hand 0) c := VR.move (hu hown) (by show K.lv = _; rw [hK]; rfl) hcv
    obtain ⟨s1, s2⟩ := SV_of_VR hcv b1
    have h1 : fs[n]? = some f := by simpa using h1
    have harr' : arr = (pre ++ c ++ post).toArray := by rw [← harr]
    cases hg : u.isAgg with
    | true =>
      refine OpOk.value (j := 0) (v := .agg c.toArray) ?_ h hk (s1 hg) hn
      simp only [execOp, ho, hval]
      have hagg' : (isAgg f.type).run P w = .ok true w := run_agg hdu (by rw [hda, ← c2]; exact hg) w
      have : (arr.extract f.offset (f.offset + i.size)) = c.toArray := by
        rw [h2, ← hpre, hsz, ← c1, ← hlen, harr']
        apply Array.ext'
        simp [List.take_append, List.drop_append]
      simp [Instr.field, run_underlying hund, h1, asAgg, part, hagg', run_size hi, this]
    | false =>
      obtain ⟨val, hcval⟩ : ∃ u, c = [u] := by
        rw [AV.size_one hg] at hlen
        exact List.length_eq_one_iff.1 hlen
      refine OpOk.value (j := 0) (v := val) ?_ h hk (s2 hg val hcval) hn
      simp only [execOp, ho, hval]
      have hagg' : (isAgg f.type).run P w = .ok false w := run_agg hdu (by rw [hda, ← c2]; exact hg) w
      have : arr[f.offset]? = some val := by
        rw [h2, ← hpre, harr', hcval]; simp
      simp [Instr.field, run_underlying hund, h1, asAgg, part, hagg', this]
  · rw [if_neg hc] at hk; exact hk.elim

end Go.Proofs.Ytlndfmmigndgeaa.Ev

/- Parts of results. -/
namespace Go.Proofs.Ytlndfmmigndgeaa.Ev
open Go
set_option linter.unusedSimpArgs false
set_option linter.unusedVariables false

def tupPath : Nat → List Stp
  | 0 => [.l]
  | n + 1 => tupPath n ++ [.r 0]

theorem tupPath_under (K : Key) (n : Nat) : (K.plus (tupPath (n + 1))) = (K.child (.r 0)).plus (tupPath n) := by
  simp [Key.plus, Key.child, tupPath]

theorem tupR_get {R : Cx} : ∀ (i : Nat) {a v : AV} {K : Key} {vs : List Value}, TupR R a K vs → tupGet a i = some v → ∃ u, vs[i]? = some u ∧ VV R v (K.plus (tupPath i)) u := by
  intro i
  induction i with
  | zero =>
    intro a v K vs h hg
    cases a <;> simp only [tupGet, Option.some.injEq] at hg <;> try (simp at hg; done)
    subst hg
    obtain ⟨u, r, rfl, h1, h2⟩ := h
    exact ⟨u, rfl, h1⟩
  | succ i ih =>
    intro a v K vs h hg
    cases a <;> simp only [tupGet] at hg <;> try (simp at hg; done)
    obtain ⟨u, r, rfl, h1, h2⟩ := h
    obtain ⟨w, h3, h4⟩ := ih h2 hg
    exact ⟨w, by simpa using h3, by rw [tupPath_under]; exact h4⟩

theorem VV.okFrame {R R' : Cx} {K : Key} {v : AV} {u : Value} (ok : R.Ok R' K v) (h : VV R v K u) : VV R' v K u := VV.frame (AV.le_refl _) ok.1 ok.2 h

theorem TupR.okFrame {R R' : Cx} {K : Key} {v : AV} {us : List Value} (ok : R.Ok R' K v) (h : TupR R v K us) : TupR R' v K us := TupR.frame (AV.le_refl _) ok.1 ok.2 h

theorem tupR_set {R : Cx} {B : Key} (hB : ∀ T : Key, R.fl T.lv T.s T.bx = true → ¬ T.under B) : ∀ (i : Nat) {a v : AV} {K : Key} {vs : List Value}, TupR R a K vs → tupGet a i = some v → K.apart B → TupR (R.mv (K.plus (tupPath i)) B) (tupSet a i) K vs := by
  intro i
  induction i with
  | zero =>
    intro a v K vs h hg hap
    cases a <;> simp only [tupGet, Option.some.injEq] at hg <;> try (simp at hg; done)
    obtain ⟨u, r, rfl, h1, h2⟩ := h
    refine ⟨u, r, rfl, trivial, ?_⟩
    exact TupR.okFrame (Cx.ok_mv' _ (fun T a b => Key.child_apart (by simp) T a b) (Key.apart_sub hap (Key.child_under _ _)) hB) h2
  | succ i ih =>
    intro a v K vs h hg hap
    cases a <;> simp only [tupGet] at hg <;> try (simp at hg; done)
    obtain ⟨u, r, rfl, h1, h2⟩ := h
    rw [tupPath_under]
    refine ⟨u, r, rfl, ?_, ih h2 hg (Key.apart_sub hap (Key.child_under _ _))⟩
    refine VV.okFrame (Cx.ok_mv' _ ?_ (Key.apart_sub hap (Key.child_under _ _)) hB) h1
    intro T a b
    exact Key.child_apart (i := .l) (j := .r 0) (by simp) T a (Key.under_trans b (Key.under_plus _ _))

theorem OpOk.extract {P : Program} {E : Env} {C : Orc} {o : Oper} {x : Operand} {i : Nat} (ho : o.op = .extract x i) : OpOk P E C o := by
  intro w0 st a ts R w k next Q h hw hn
  simp only [evOp, ho] at hw
  split at hw
  · rename_i t
    obtain ⟨s, hs, b, hb, v, hv, hw⟩ := ExtP_iff.1 hw
    · have hsv := h.slot 0 t s _ hs rfl
      rw [hb] at hsv
      obtain ⟨vs, hval, htup⟩ := hsv
      obtain ⟨u, hu, hvv⟩ := tupR_get i htup hv
      have hrun : (execOp a.eval o).run P w = .ok (.value u) w := by
        have hu' : vs[i]? = some u := by simpa using hu
        have hval' : a.eval (.tmp t) = .tuple vs := hval
        simp only [execOp, ho, hval', Instr.extract, hu']; rfl
      have hnt : ∀ y, v ≠ .tup y := by
        rintro y rfl
        exact hvv
      by_cases hown : v.hasOwn = true
      · rw [hown, cond_true] at hw
        let A := (st.kv 0 t).plus (tupPath i)
        let B := st.hand 0
        have nh : ∀ T : Key, R.fl T.lv T.s T.bx = true → ¬ T.under B := by
          intro T e hT; rw [fl_under hT, h.fl_hand] at e; simp at e
        have hap := kv_hand_apart st t 0 hs
        obtain ⟨f1, f2, f3⟩ := Cx.mv_facts (A := A) (B := B) h.zd h.lo h.lt
        have hAu : A.under (st.kv 0 t) := Key.under_plus _ _
        have h1 : Rel w0 (st.set 0 t { s with v := .tup (tupSet b i) }) (a.tmps :: ts) (R.mv A B) w := by
          refine h.step2 (St.length_set ..) (fun i => St.frames_set ..) h.hh ?_ ?_ ?_ (h.inj.mv _ _) f1 f2 f3 h.zlt h.bel
          · intro lv n bx; show R.fl lv n bx = _; rw [h.fl, St.fl_set_same hs (fun bx => by cases bx <;> rfl)]
          · intro j n sl' hg
            rw [St.get_set] at hg
            split at hg
            · rename_i hc
              obtain ⟨rfl, rfl⟩ := hc
              simp only [hs, Option.map_some, Option.some.injEq] at hg
              subst hg
              refine ⟨s, hs, .inr ?_⟩
              intro t' ht'
              simp only [List.getElem?_cons_zero, Option.some.injEq] at ht'
              subst ht'
              exact ⟨vs, hval, tupR_set nh i htup hv hap⟩
            · rename_i hc
              exact ⟨sl', hg, .inl ⟨AV.le_refl _, Cx.ok_mv' _ (fun T a b => kv_apart (St.get_lt hg) (St.get_lt hs) hc T a (Key.under_trans b hAu)) (kv_hand_apart' st 0 hg) nh⟩⟩
          · intro j n sl' hg
            rw [St.get_set] at hg
            have hk : ∀ x : AV, R.Ok (R.mv A B) (st.kb j n) x := fun x => Cx.ok_mv' x (fun T a b => kb_kv_apart _ _ _ _ _ T a (Key.under_trans b hAu)) (kb_hand_apart _ _ _ _) nh
            split at hg
            · rename_i hc
              obtain ⟨rfl, rfl⟩ := hc
              simp only [hs, Option.map_some, Option.some.injEq] at hg
              subst hg
              exact ⟨s, hs, .inl ⟨AV.le_refl _, hk _⟩⟩
            · exact ⟨sl', hg, .inl ⟨AV.le_refl _, hk _⟩⟩
        have hsv : SV (R.mv A B) v ((st.set 0 t { s with v := .tup (tupSet b i) }).hand 0) u := by
          rw [St.hand_set, SV_VV hnt]
          have hall : ∀ T : Key, v.hits A T → R.fl T.lv T.s T.bx = true → ¬ T.under B := fun T _ e => nh T e
          exact VV.mv_self (A := A) (B := B) rfl (q := []) hall hvv
        exact OpOk.value (j := 0) hrun h1 hw hsv hn
      · have hown : v.hasOwn = false := by simpa using hown
        rw [hown, cond_false] at hw
        have hsv : SV R v (st.hand 0) u := by
          rw [SV_VV hnt]
          exact VV.move hown (by simp [Key.plus, St.kv, St.hand]) hvv
        exact OpOk.value (j := 0) hrun h hw hsv hn
  · exact hw.elim

end Go.Proofs.Ytlndfmmigndgeaa.Ev

/- Calls of functions that only read what they are handed. -/
namespace Go.Proofs.Ytlndfmmigndgeaa.Ev
open Go
set_option linter.unusedSimpArgs false
set_option linter.unusedVariables false

def Cx.bare (Z : Nat → Prop) (h : Array Obj) : Cx := ⟨fun _ => none, Z, h, fun _ _ _ => false⟩

def K00 : Key := ⟨0, 0, false, []⟩

def ArgsR (R : Cx) (K : Key) : List AV → List Value → Prop
  | [], [] => True
  | a :: as, v :: vs => SV R a K v ∧ ArgsR R K as vs
  | _, _ => False

/-- What a function does that is handed data and hands back what it made, or what it was handed. -/
structure PureC (P : Program) (tup : Bool) (f : Nat) (as : List AV) (r : Pk) : Prop where
  fn : ∃ fn, P.funcs[f]? = some fn ∧ (fn.name == "runtime.NumGoroutine") = false ∧ fn.body.isNone = false
  run : ∀ (w : World) (Z : Nat → Prop) (hg : GOk w) (vals : List Value), (∀ b, Z b → b < w.heap.size) → ArgsR (Cx.bare Z w.heap) K00 as vals →
    Calls P f vals.toArray w fun e w' => ∃ v R', e = .returned v ∧ Rel ⟨w, Z, hg⟩ [] [] R' w' ∧ SV R' (asTup tup (unpackT tup r)) K00 v

theorem OR.rekeyC {R R' : Cx} {A B : Key} (hh : R'.h = R.h) (hρ : ∀ q, R'.ρ (B.plus q) = R.ρ (A.plus q)) :
    ∀ {s : Sh} {o : Ow} {q : List Stp} {x : s.den} {cs : List Value}, closed s o = true → OR R s o (A.plus q) x cs → OR R' s o (B.plus q) x cs := by
  intro s
  induction s with
  | int | bool | str | unit => intro o q x cs _ h; simp only [OR, DR] at h ⊢; exact h
  | fn f c ih => intro o q x cs hc h; cases o <;> simp [closed] at hc
  | ptr s ih => intro o q x cs hc h; cases o <;> simp [closed] at hc
  | pair a b iha ihb =>
    intro o q x cs hc h
    have fz : closed (.pair a b) .fz = true → OR R (.pair a b) .fz (A.plus q) x cs → OR R' (.pair a b) .fz (B.plus q) x cs := by
      intro hc h
      rw [OR_fz] at h ⊢
      simp only [closed, Bool.and_eq_true] at hc
      obtain ⟨c1, c2, rfl, h1, h2⟩ := h
      exact ⟨c1, c2, rfl, OR_fz.1 (iha (q := q) hc.1 (OR_fz.2 h1)), OR_fz.1 (ihb (q := q) hc.2 (OR_fz.2 h2))⟩
    cases o with
    | pr o1 o2 =>
      simp only [closed, Bool.and_eq_true] at hc
      simp only [OR] at h ⊢
      obtain ⟨c1, c2, rfl, h1, h2⟩ := h
      exact ⟨c1, c2, rfl, iha (q := .l :: q) hc.1 h1, ihb (q := .r a.size :: q) hc.2 h2⟩
    | fz => exact fz hc h
    | ow o =>
      simp only [OR] at h ⊢
      have := fz hc (OR_fz.2 h)
      exact OR_fz.1 this
  | sl e ih =>
    intro o q l cs hc h
    cases o with
    | ow o =>
      simp only [OR] at h ⊢
      rw [hρ q, hh]
      rcases h with h | ⟨b, cap, arr, el, h1, h2, h3, h4, h5, hs⟩
      · exact .inl h
      · refine .inr ⟨b, cap, arr, el, h1, h2, h3, h4, h5, ?_⟩
        clear h1 h2 h3
        generalize arr.toList = cs at hs
        generalize 0 = i at hs ⊢
        induction l generalizing cs i with
        | nil => trivial
        | cons x xs ihl =>
          obtain ⟨c, r, rfl, hx, hr⟩ := hs
          exact ⟨c, r, rfl, ih (q := .ix i e.size :: q) (by simpa [closed] using hc) hx, ihl _ _ hr⟩
    | fz => simp [closed] at hc
    | pr o1 o2 => simp [closed] at hc

/-- A result at another key. -/
theorem OR.rekeyR {R R' : Cx} {A B : Key} {s : Sh} {o : Ow} (hz : (∀ b, R.Z b → R'.Z b) ∨ closed s o = true) (hh : R'.h = R.h) (hρ : ∀ q, R'.ρ (B.plus q) = R.ρ (A.plus q)) {q : List Stp} {x : s.den} {cs : List Value} (h : OR R s o (A.plus q) x cs) : OR R' s o (B.plus q) x cs := by
  rcases hz with hz | hc
  · exact OR.rekey hz hh hρ h
  · exact OR.rekeyC hh hρ hc h

theorem unpack_agg (s : Sh) (o : Ow) (x : s.den) : (unpack s o x).isAgg = s.isAgg := by
  cases s <;> cases o <;> rfl

theorem unpack_good (s : Sh) (o : Ow) (x : s.den) : (unpack s o x).isBad = false := by
  cases s <;> cases o <;> rfl

theorem unpack_VV {R : Cx} {s : Sh} {o : Ow} {K : Key} {x : s.den} {v : Value} : VV R (unpack s o x) K v ↔ (if s.isAgg then ∃ arr, v = .agg arr ∧ OR R s o K x arr.toList else OR R s o K x [v]) := by
  rw [VV_iff (AV.notBad (unpack_good s o x)).1, unpack_agg]
  simp only [unpack_VR]

theorem unpackVV_rekey {R R' : Cx} {A B : Key} {s : Sh} {o : Ow} (hz : (∀ b, R.Z b → R'.Z b) ∨ closed s o = true) (hh : R'.h = R.h) (hρ : ∀ q, R'.ρ (B.plus q) = R.ρ (A.plus q)) {q : List Stp} {x : s.den} {v : Value} (h : VV R (unpack s o x) (A.plus q) v) : VV R' (unpack s o x) (B.plus q) v := by
  rw [unpack_VV] at h ⊢
  split at h
  · rename_i hg; rw [if_pos hg]; obtain ⟨arr, e, h⟩ := h; exact ⟨arr, e, OR.rekeyR hz hh hρ h⟩
  · rename_i hg; rw [if_neg hg]; exact OR.rekeyR hz hh hρ h

theorem unpackC_rekey {R R' : Cx} {A B : Key} (hh : R'.h = R.h) (hρ : ∀ q, R'.ρ (B.plus q) = R.ρ (A.plus q)) : ∀ {s : Sh} {o : Ow} (hz : (∀ b, R.Z b → R'.Z b) ∨ closed s o = true) {q : List Stp} {x : s.den} {us : List Value}, TupR R (unpackC s o x) (A.plus q) us → TupR R' (unpackC s o x) (B.plus q) us := by
  intro s
  induction s with
  | pair a b iha ihb =>
    intro o hz q x us h
    cases o with
    | pr o1 o2 =>
      have hz1 : (∀ b, R.Z b → R'.Z b) ∨ (closed a o1 = true ∧ closed b o2 = true) := by simpa [closed] using hz
      simp only [unpackC] at h ⊢
      obtain ⟨u, r, rfl, h1, h2⟩ := h
      exact ⟨u, r, rfl, unpackVV_rekey (q := .l :: q) (hz1.imp id And.left) hh hρ h1, ihb (q := .r 0 :: q) (hz1.imp id And.right) h2⟩
    | fz =>
      have hz1 : (∀ b, R.Z b → R'.Z b) ∨ (closed a .fz = true ∧ closed b .fz = true) := by simpa [closed] using hz
      simp only [unpackC] at h ⊢
      obtain ⟨u, r, rfl, h1, h2⟩ := h
      exact ⟨u, r, rfl, unpackVV_rekey (q := .l :: q) (hz1.imp id And.left) hh hρ h1, ihb (q := .r 0 :: q) (hz1.imp id And.right) h2⟩
    | ow o1 =>
      have hz1 : (∀ b, R.Z b → R'.Z b) ∨ (closed a .fz = true ∧ closed b .fz = true) := by simpa [closed] using hz
      simp only [unpackC] at h ⊢
      obtain ⟨u, r, rfl, h1, h2⟩ := h
      exact ⟨u, r, rfl, unpackVV_rekey (q := .l :: q) (hz1.imp id And.left) hh hρ h1, ihb (q := .r 0 :: q) (hz1.imp id And.right) h2⟩
  | unit => intro o hz q x us h; cases o <;> exact h
  | sl e ih => intro o hz q x us h; cases o <;> exact h.elim
  | _ => intro o hz q x us h; cases o <;> exact h.elim

theorem ret_rekey {R R' : Cx} {A B : Key} {t : Bool} {r : Pk} (hz : (∀ b, R.Z b → R'.Z b) ∨ closed r.s r.o = true) (hh : R'.h = R.h) (hρ : ∀ q, R'.ρ (B.plus q) = R.ρ (A.plus q)) {v : Value} (h : SV R (asTup t (unpackT t r)) A v) : SV R' (asTup t (unpackT t r)) B v := by
  cases t with
  | true =>
    obtain ⟨vs, rfl, h⟩ := h
    exact ⟨vs, rfl, unpackC_rekey hh hρ hz (q := []) h⟩
  | false =>
    simp only [asTup, unpackT, Bool.false_eq_true, if_false] at h ⊢
    rw [SV_VV (AV.notBad (unpack_good _ _ _)).2] at h ⊢
    exact unpackVV_rekey hz hh hρ (q := []) h

/-- Everything owned, for a while counted as frozen. -/
def Cx.allZ (R : Cx) : Nat → Prop := fun b => R.Z b ∨ ∃ K n, R.ρ K = some (.blk b n)

theorem OR.allZ {R : Cx} {s : Sh} {o : Ow} {K : Key} {x : s.den} {cs : List Value} (h : OR R s o K x cs) : DR R.allZ R.h s x cs :=
  h.freeze (fun b hb => .inl hb) (fun T b n _ hr => .inr ⟨T, n, hr⟩)

theorem seg_allZ {R : Cx} {e : Sh} {o : Ow} {K : Key} {l : List e.den} {i : Nat} {cs : List Value} (h : SegI (fun i x c => OR R e o (K.child (.ix i e.size)) x c) i l cs) : Seg (DR R.allZ R.h e) l cs :=
  segI_seg (Q := fun i x c => OR R e o (K.child (.ix i e.size)) x c) (fun i x c hx => OR.allZ hx) l i cs h

/-- What a value's data are in memory. -/
theorem data_ok {C : Orc} {w0 : Base} {w : World} {st : St} {ts : List (Array Value)} {R : Cx} (h : Rel w0 st ts R w) : ∀ {v : AV} {k : AV → St → Prop}, (v.data).wp C st k → ∃ s x, k (.d s x) st ∧ s.size = v.size ∧ s.isAgg = v.isAgg ∧ v.isBad = false ∧ ∀ K cs, K.lv = st.length - 1 → VR R v K cs → DR R.allZ R.h s x cs := by
  intro v
  induction v with
  | d s x =>
    intro k hw
    exact ⟨s, x, hw, rfl, rfl, rfl, fun K cs _ hv => DR.frame (fun b hb => .inl hb) (fun _ _ _ => id) hv⟩
  | own e o l =>
    intro k hw
    exact ⟨.sl e, l, hw, rfl, rfl, rfl, fun K cs _ hv => OR.allZ (o := .ow o) (s := .sl e) hv⟩
  | vw q e =>
    intro k hw
    simp only [AV.data, M.wp_bind] at hw
    replace hw := getPl_ok h hw
    obtain ⟨x, hw, _, hx⟩ := hw
    split at hw
    · rename_i e' o l
      split at hw
      · rename_i he
        subst he
        refine ⟨.sl e', l, hw, rfl, rfl, rfl, fun K cs hK hv => ?_⟩
        obtain ⟨c, hc, _⟩ := hx rfl
        obtain ⟨u, rfl, hs, hvv⟩ := hv
        have hv' : SV R (.vw q e') K u := ⟨u, rfl, hs, hvv⟩
        obtain ⟨_, hcase⟩ := vw_header h hK hv' hc
        rcases hcase with ⟨rfl, hval, _⟩ | ⟨b, cap, arr, el, hval, a2, a3, a4, hρ, a5⟩
        · rw [hval]; exact .inl ⟨rfl, none, 0, rfl⟩
        · rw [hval]; exact .inr ⟨b, 0, cap, arr, el, _, rfl, a2, .inr ⟨_, _, hρ⟩, by rw [h.hh]; exact a4, by simpa using seg_allZ a5⟩
      · exact hw.elim
    · exact hw.elim
  | sub q e lo n =>
    intro k hw
    simp only [AV.data, M.wp_bind] at hw
    replace hw := getPl_ok h hw
    obtain ⟨x, hw, _, hx⟩ := hw
    split at hw
    · rename_i e' o l
      split at hw
      · rename_i he
        subst he
        obtain ⟨hlen, hw⟩ := hw
        refine ⟨.sl e', ((castDen rfl l : (Sh.sl e').den).drop lo).take n, hw, rfl, rfl, rfl, fun K cs hK hv => ?_⟩
        obtain ⟨c, hc, _⟩ := hx rfl
        have hc0 := hc
        obtain ⟨u, rfl, hs, hvv⟩ := hv
        have hv' : SV R (.sub q e' lo n) K u := ⟨u, rfl, hs, hvv⟩
        obtain ⟨_, hcase⟩ := sub_header h hK hv' hc
        rcases hcase with ⟨rfl, hval, rfl, rfl, _⟩ | ⟨b, off, cap, hval, a2, a3, a4, hρ⟩
        · rw [hval]; exact .inl ⟨by simp [castDen], none, 0, rfl⟩
        · simp only [VR, OR] at hc0
          rcases hc0 with ⟨hn, _⟩ | ⟨b', cap', arr, el, hρ', _, _, _, hhp, hseg⟩
          · rw [hn] at hρ; simp at hρ
          · rw [hρ] at hρ'
            simp only [Option.some.injEq, Nd.blk.injEq] at hρ'
            obtain ⟨rfl, _⟩ := hρ'
            have hl : (List.take n (List.drop lo l)).length = n := by simp only [List.length_take, List.length_drop]; omega
            rw [hval]
            refine .inr ⟨b, off, cap, arr, el, _, ?_, ?_, .inr ⟨_, _, hρ⟩, hhp, ?_⟩
            · show _ = [Value.slice _ (List.take n (List.drop lo l)).length cap]; rw [hl]
            · show (List.take n (List.drop lo l)).length ≤ cap; rw [hl]; exact a2
            · rcases a4 with a4 | a4
              · subst a4
                show Seg _ (List.take 0 (List.drop lo l)) _
                simp [Seg]
              · rw [a4]
                exact seg_take _ _ (seg_drop (fun _ _ => DR.length) l _ (seg_allZ hseg) lo (by omega)) n
      · exact hw.elim
    · exact hw.elim
  | pair a b iha ihb =>
    intro k hw
    simp only [AV.data, M.wp_bind] at hw
    obtain ⟨s, x, hw, e1, _, _, h1⟩ := iha hw
    obtain ⟨t, y, hw, e2, _, _, h2⟩ := ihb hw
    refine ⟨.pair s t, (x, y), hw, by simp only [Sh.size, AV.size, e1, e2], rfl, rfl, fun K cs hK hv => ?_⟩
    obtain ⟨c1, c2, rfl, g1, g2⟩ := hv
    exact ⟨c1, c2, rfl, h1 (K.child .l) _ hK g1, h2 (K.child (.r a.size)) _ hK g2⟩
  | unit =>
    intro k hw
    exact ⟨.unit, (), hw, rfl, rfl, rfl, fun K cs _ hv => hv⟩
  | dp s x =>
    intro k hw
    refine ⟨.ptr s, some x, hw, rfl, rfl, rfl, fun K cs _ hv => ?_⟩
    obtain ⟨b, off, arr, el, fr, c, r, e, hz, hh, hd, hx⟩ := hv
    exact .inr ⟨x, b, off, arr, el, fr, c, r, rfl, e, .inl hz, hh, hd, hx.frame (fun b hb => .inl hb) (fun _ _ _ => id)⟩
  | _ => intro k hw; exact hw.elim

theorem viewArgs_ok {C : Orc} {w0 : Base} {w : World} {st : St} {a : Act} {ts : List (Array Value)} {R : Cx} (h : Rel w0 st (a.tmps :: ts) R w) : ∀ {xs : List Operand} {k : List AV → St → Prop}, (viewArgs xs).wp C st k → ∃ vs, k vs st ∧ vs.length = xs.length ∧ ∀ (i : Nat) (v : AV), vs[i]? = some v → ∃ K : Key, K.lv = st.length - 1 ∧ SV R v K ((xs.map a.eval).getD i undef) := by
  intro xs
  induction xs with
  | nil => intro k hw; exact ⟨[], hw, rfl, fun i v hv => by simp at hv⟩
  | cons x xs ih =>
    intro k hw
    simp only [viewArgs, M.wp_bind] at hw
    obtain ⟨v, hk, ⟨K, hK, hv⟩, hq1, hq2⟩ := rawOp_ok h hw
    obtain ⟨vs, hk, hl, hvs⟩ := ih hk
    refine ⟨_, hk, by simp [hl], ?_⟩
    intro i v' hi
    cases i with
    | zero => simp only [List.getElem?_cons_zero, Option.some.injEq] at hi; subst hi; exact ⟨K, hK, hv⟩
    | succ i => simpa using hvs i v' (by simpa using hi)

theorem d_SV {R : Cx} {Z : Nat → Prop} {h : Array Obj} {v : AV} {s : Sh} {x : s.den} {K : Key} {val : Value} (hag : s.isAgg = v.isAgg) (hb : v.isBad = false) (hd : ∀ cs, VR R v K cs → DR Z h s x cs) (hv : SV R v K val) (K' : Key) : SV (Cx.bare Z h) (.d s x) K' val := by
  obtain ⟨b1, b2⟩ := AV.notBad hb
  rw [SV_VV b2, VV_iff b1] at hv
  rw [SV_VV (by intro y e; cases e), VV_iff (by intro e; cases e)]
  show (if s.isAgg then _ else _)
  rw [hag]
  split at hv
  · rename_i hg; rw [if_pos hg]; obtain ⟨arr, e, hv⟩ := hv; exact ⟨arr, e, hd _ hv⟩
  · rename_i hg; rw [if_neg hg]; exact hd _ hv

theorem dataArgs_ok {C : Orc} {w0 : Base} {w : World} {st : St} {a : Act} {ts : List (Array Value)} {R : Cx} (h : Rel w0 st (a.tmps :: ts) R w) : ∀ {xs : List Operand} {vs : List AV} {k : List AV → St → Prop}, (dataArgs vs).wp C st k → vs.length = xs.length →
    (∀ (i : Nat) (v : AV), vs[i]? = some v → ∃ K : Key, K.lv = st.length - 1 ∧ SV R v K ((xs.map a.eval).getD i undef)) → ∃ ds, k ds st ∧ ArgsR (Cx.bare R.allZ R.h) K00 ds (xs.map a.eval) := by
  intro xs
  induction xs with
  | nil =>
    intro vs k hw hl _
    cases vs with
    | nil => exact ⟨[], hw, trivial⟩
    | cons => simp at hl
  | cons x xs ih =>
    intro vs k hw hl hvs
    cases vs with
    | nil => simp at hl
    | cons v vs =>
      simp only [dataArgs, M.wp_bind] at hw
      obtain ⟨s, y, hw, e1, e2, e3, hd⟩ := data_ok h hw
      obtain ⟨ds, hk, hds⟩ := ih hw (by simpa using hl) (fun i v hi => by simpa using hvs (i + 1) v (by simpa using hi))
      obtain ⟨K, hK, hv⟩ := hvs 0 v rfl
      exact ⟨_, hk, d_SV e2 e3 (fun cs hc => hd K cs hK hc) (by simpa using hv) _, hds⟩

theorem data_D {C : Orc} {R : Cx} : ∀ {v : AV} {st : St} {k : AV → St → Prop}, v.isD = true → (v.data).wp C st k → ∃ s x, k (.d s x) st ∧ s.size = v.size ∧ s.isAgg = v.isAgg ∧ v.isBad = false ∧ ∀ K cs, VR R v K cs → DR R.Z R.h s x cs := by
  intro v
  induction v with
  | d s x => intro st k _ hw; exact ⟨s, x, hw, rfl, rfl, rfl, fun K cs hv => hv⟩
  | pair a b iha ihb =>
    intro st k hd hw
    simp only [AV.isD, Bool.and_eq_true] at hd
    simp only [AV.data, M.wp_bind] at hw
    obtain ⟨s, x, hw, e1, _, _, h1⟩ := iha hd.1 hw
    obtain ⟨t, y, hw, e2, _, _, h2⟩ := ihb hd.2 hw
    refine ⟨.pair s t, (x, y), hw, by simp only [Sh.size, AV.size, e1, e2], rfl, rfl, fun K cs hv => ?_⟩
    obtain ⟨c1, c2, rfl, g1, g2⟩ := hv
    exact ⟨c1, c2, rfl, h1 (K.child .l) _ g1, h2 (K.child (.r a.size)) _ g2⟩
  | unit => intro st k _ hw; exact ⟨.unit, (), hw, rfl, rfl, rfl, fun K cs hv => hv⟩
  | dp s x =>
    intro st k _ hw
    refine ⟨.ptr s, some x, hw, rfl, rfl, rfl, fun K cs hv => ?_⟩
    obtain ⟨b, off, arr, el, fr, c, r, e, hz, hh, hd, hx⟩ := hv
    exact .inr ⟨x, b, off, arr, el, fr, c, r, rfl, e, hz, hh, hd, hx⟩
  | _ => intro st k hd; simp [AV.isD] at hd

theorem dataArgs_D {C : Orc} {st : St} {a : Act} {R : Cx} : ∀ {xs : List Operand} {vs : List AV} {k : List AV → St → Prop}, (∀ v ∈ vs, v.isD = true) → (dataArgs vs).wp C st k → vs.length = xs.length →
    (∀ (i : Nat) (v : AV), vs[i]? = some v → ∃ K : Key, K.lv = st.length - 1 ∧ SV R v K ((xs.map a.eval).getD i undef)) → ∃ ds, k ds st ∧ ArgsR (Cx.bare R.Z R.h) K00 ds (xs.map a.eval) := by
  intro xs
  induction xs with
  | nil =>
    intro vs k _ hw hl _
    cases vs with
    | nil => exact ⟨[], hw, trivial⟩
    | cons => simp at hl
  | cons x xs ih =>
    intro vs k hD hw hl hvs
    cases vs with
    | nil => simp at hl
    | cons v vs =>
      simp only [dataArgs, M.wp_bind] at hw
      obtain ⟨s, y, hw, e1, e2, e3, hd⟩ := data_D (R := R) (hD v (by simp)) hw
      obtain ⟨ds, hk, hds⟩ := ih (fun v hv => hD v (by simp [hv])) hw (by simpa using hl) (fun i v hi => by simpa using hvs (i + 1) v (by simpa using hi))
      obtain ⟨K, hK, hv⟩ := hvs 0 v rfl
      exact ⟨_, hk, d_SV e2 e3 (fun cs hc => hd K cs hc) (by simpa using hv) _, hds⟩

/-- What comes back of a call goes into a hand. -/
theorem Rel.called {w0 : Base} {w w' : World} {st : St} {ts : List (Array Value)} {R R' : Cx} (h : Rel w0 st ts R w) {Z : Nat → Prop} {hg : GOk w} (h' : Rel ⟨w, Z, hg⟩ [] [] R' w') {t : Bool} {r : Pk} {v : Value} (hc : (∀ b, Z b → R.Z b) ∨ closed r.s r.o = true)
    (hv : SV R' (asTup t (unpackT t r)) K00 v) : ∃ R2, Rel w0 st ts R2 w' ∧ SV R2 (asTup t (unpackT t r)) (st.hand 0) v := by
  let B := st.hand 0
  let R2 : Cx := { ρ := fun K => if K.under B then R'.ρ (K00.plus (K.below B)) else R.ρ K, Z := fun b => R.Z b ∨ (R'.Z b ∧ w.heap.size ≤ b), h := w'.heap, fl := R.fl }
  have hB := isHand_hand st 0
  have hold : ∀ (b : Nat) (o : Obj), w.heap[b]? = some o → w'.heap[b]? = some o := by
    intro b o ho
    have := (Array.getElem?_eq_some_iff.1 ho).1
    rw [h'.bel.block b this]; exact ho
  have sb : ∀ {K b n}, R2.ρ K = some (.blk b n) → (K.under B ∧ R'.ρ (K00.plus (K.below B)) = some (.blk b n) ∧ w.heap.size ≤ b) ∨ (¬ K.under B ∧ R.ρ K = some (.blk b n) ∧ b < w.heap.size) := by
    intro K b n e
    simp only [R2] at e
    split at e
    · rename_i hu; exact .inl ⟨hu, e, h'.lo _ _ _ e⟩
    · rename_i hu; exact .inr ⟨hu, e, h.lt _ _ _ e⟩
  have hsz : w.heap.size ≤ w'.heap.size := h'.bel.size
  have h1 : Rel w0 st ts R2 w' := by
    refine h.handsStep (R' := R2) (fun K hK => ?_) (fun _ => .inl) rfl rfl (fun b o _ => hold b o) ?_ ?_ ?_ ?_ ?_ (h.bel.trans (h'.bel.mono h.bel.size)) (fun b hb => hb.elim .inl (fun ⟨_, e⟩ => .inr (Nat.le_trans h.bel.size e)))
    · have : ¬ K.under B := fun e => hK (isHand_under e hB)
      simp only [R2, if_neg this]
    · intro K K' b n m e1 e2
      rcases sb e1 with ⟨u1, r1, b1⟩ | ⟨u1, r1, b1⟩ <;> rcases sb e2 with ⟨u2, r2, b2⟩ | ⟨u2, r2, b2⟩
      · have := Key.plus_inj (h'.inj _ _ _ _ _ r1 r2)
        rw [← Key.plus_below u1, ← Key.plus_below u2, this]
      · omega
      · omega
      · exact h.inj _ _ _ _ _ r1 r2
    · rintro b (hb | ⟨hb, hb2⟩) K n e
      · rcases sb e with ⟨_, _, b1⟩ | ⟨_, r1, _⟩
        · have := h.zlt b hb; omega
        · exact h.zd b hb _ _ r1
      · rcases sb e with ⟨_, r1, _⟩ | ⟨_, _, b1⟩
        · exact h'.zd b hb _ _ r1
        · omega
    · intro K b n e
      rcases sb e with ⟨_, _, b1⟩ | ⟨_, r1, _⟩
      · have := h.bel.size; omega
      · exact h.lo _ _ _ r1
    · intro K b n e
      rcases sb e with ⟨_, r1, _⟩ | ⟨_, _, b1⟩
      · exact h'.lt _ _ _ r1
      · omega
    · rintro b (hb | ⟨hb, _⟩)
      · have := h.zlt b hb; omega
      · exact h'.zlt b hb
  refine ⟨R2, h1, ret_rekey (R := R') (R' := R2) (A := K00) (B := B) ?_ h'.hh.symm (fun q => ?_) hv⟩
  · refine hc.imp (fun hz b hb => ?_) id
    rcases h'.zlo b hb with hb2 | hb2
    · exact .inl (hz b hb2)
    · exact .inr ⟨hb, hb2⟩
  · simp only [R2, if_pos (Key.under_plus B q), Key.below_plus]

/-- What a function does that is handed views of outer places. -/
structure InlC (P : Program) (tup : Bool) (f : Nat) (vs : List AV) (st : St) (r : AV) (st' : St) : Prop where
  fn : ∃ fn, P.funcs[f]? = some fn ∧ (fn.name == "runtime.NumGoroutine") = false ∧ fn.body.isNone = false
  run : ∀ (w0 : Base) (w : World) (ts : List (Array Value)) (R : Cx) (vals : List Value), Rel w0 st ts R w → (∀ K : Key, K.lv = st.length - 1 → ArgsR R K vs vals) → (∀ v ∈ vs, v.hasOwn = false) →
    Calls P f vals.toArray w fun e w' => ∃ v R', e = .returned v ∧ Rel w0 st' ts R' w' ∧ st'.length = st.length ∧ SV R' (asTup tup r) (st'.hand 0) v

structure OrcOk (P : Program) (E : Env) (C : Orc) : Prop where
  pc : ∀ f as r, C.pc f as r → PureC P (E.tup f) f as r
  ic : ∀ f vs st r st', C.ic f vs st r st' → InlC P (E.tup f) f vs st r st'

theorem run_enter {P : Program} {o : Oper} {c : Call} {f : Nat} {a : Act} {w : World} (ho : o.op = .call c) (hc : c.callee = .value (.func f)) (hf : ∃ fn, P.funcs[f]? = some fn ∧ (fn.name == "runtime.NumGoroutine") = false ∧ fn.body.isNone = false) :
    (execOp a.eval o).run P w = .ok (.enter f (c.args.toList.map a.eval).toArray) w := by
  obtain ⟨fn, h1, h2, h3⟩ := hf
  have hargs : (#[] ++ c.args.map a.eval ++ #[] : Array Value) = (c.args.toList.map a.eval).toArray := by
    apply Array.ext'; simp
  have he : a.eval (.func f) = .func (.func f) #[] #[] := rfl
  simp only [execOp, ho, resolve, hc, he, Deferred.ofValue, Sem.run_bind, Sem.run_pure, Result.andThen_ok, invoke, hargs, callFunc]
  have h2' : ¬ fn.name = "runtime.NumGoroutine" := by simpa using h2
  have h3' : ¬ fn.body = none := by intro e; rw [e] at h3; simp at h3
  simp [h1, h2', h3']

end Go.Proofs.Ytlndfmmigndgeaa.Ev

/- The operation 'call' of a function that only reads. -/
namespace Go.Proofs.Ytlndfmmigndgeaa.Ev
open Go
set_option linter.unusedSimpArgs false
set_option linter.unusedVariables false

theorem Calls.mono' {P : Program} {f : FuncId} {args : Array Value} {w : World} {R R' : Ending → World → Prop} (h : Calls P f args w R) (hr : ∀ e w', R e w' → R' e w') : Calls P f args w R' := by
  intro cs
  obtain ⟨e, w', fr, h1, h2⟩ := h cs
  exact ⟨e, w', fr, hr _ _ h1, h2⟩

theorem OpOk.callPure {P : Program} {E : Env} {C : Orc} (hC : OrcOk P E C) {o : Oper} {c : Call} {f : Nat} (ho : o.op = .call c) (hc : c.callee = .value (.func f)) (hi : E.inl f = false) : OpOk P E C o := by
  intro w0 st a ts R w k next Q h hw hn
  simp only [evOp, ho, callAV, hc] at hw
  rw [if_neg (by rw [hi]; simp), M.wp_bind] at hw
  obtain ⟨vs, hk, hl, hvs⟩ := viewArgs_ok h hw
  rw [M.wp_bind] at hk
  have main : ∀ (Z : Nat → Prop) (ds : List AV) (r : Pk), (∀ b, Z b → b < w.heap.size) → ArgsR (Cx.bare Z w.heap) K00 ds (c.args.toList.map a.eval) → PureC P (E.tup f) f ds r → ((∀ b, Z b → R.Z b) ∨ closed r.s r.o = true) →
      (dstT o (asTup (E.tup f) (unpackT (E.tup f) r))).wp C st k → o.wp P a w next Q := by
    intro Z ds r hZ hargs hp hcl hk
    have hrun := run_enter (P := P) (o := o) (a := a) (w := w) ho hc hp.fn
    simp only [Oper.wp, hrun, Oper.upon]
    refine Calls.mono' (hp.run w Z (w0.gl.below h.bel) _ hZ hargs) ?_
    rintro e w' ⟨v, R', rfl, h', hv⟩
    obtain ⟨R2, h2, hv2⟩ := h.called h' hcl hv
    obtain ⟨st3, R3, hk, h3⟩ := dstT_ok h2 hk hv2
    exact hn _ st3 R3 _ (put_defers _ _ _) h3 hk
  by_cases hD : vs.all AV.isD = true
  · obtain ⟨ds, hk, hargs⟩ := dataArgs_D (a := a) (R := R) (xs := c.args.toList) (fun v hv => List.all_eq_true.1 hD v hv) hk hl hvs
    obtain ⟨r, hr, _, hk⟩ := hk
    rw [h.hh] at hargs
    exact main R.Z ds r h.zlt hargs (hC.pc _ _ _ hr) (.inl fun _ => id) hk
  · obtain ⟨ds, hk, hargs⟩ := dataArgs_ok h hk hl hvs
    obtain ⟨r, hr, hcl, hk⟩ := hk
    rw [h.hh] at hargs
    refine main R.allZ ds r ?_ hargs (hC.pc _ _ _ hr) (.inr (hcl (by simpa using hD))) hk
    rintro b (hb | ⟨K, n, hb⟩)
    · exact h.zlt b hb
    · exact h.lt _ _ _ hb

/-! ### Functions as values -/

theorem chain_DR {Z : Nat → Prop} {h : Array Obj} : ∀ {ds : List AV} {vs : List Value} {s : Sh} {x : s.den}, chainAV ds = .d s x → ArgsR (Cx.bare Z h) K00 ds vs → ∃ cells, FlatOf s vs cells ∧ DR Z h s x cells := by
  intro ds
  induction ds with
  | nil =>
    intro vs s x e ha
    cases vs with
    | cons => exact ha.elim
    | nil =>
      simp only [chainAV] at e
      cases e
      exact ⟨[], rfl, rfl⟩
  | cons d ds ih =>
    intro vs s x e ha
    cases vs with
    | nil => exact ha.elim
    | cons v vs =>
      obtain ⟨hv, ha⟩ := ha
      cases d with
      | d s1 x1 =>
        simp only [chainAV] at e
        split at e
        · rename_i t y ht
          cases e
          obtain ⟨cells, h1, h2⟩ := ih ht ha
          rw [SV_VV (by intro y e; cases e), VV_iff (by intro e; cases e)] at hv
          have hv : (if s1.isAgg then ∃ arr, v = .agg arr ∧ DR Z h s1 x1 arr.toList else DR Z h s1 x1 [v]) := hv
          by_cases hg : s1.isAgg = true
          · rw [if_pos hg] at hv
            obtain ⟨arr, rfl, hd⟩ := hv
            exact ⟨arr.toList ++ cells, ⟨_, _, arr.toList, cells, rfl, rfl, (fun _ => by simp), (fun e => by rw [hg] at e; simp at e), DR.length hd, h1⟩, ⟨_, _, rfl, hd, h2⟩⟩
          · rw [if_neg hg] at hv
            exact ⟨[v] ++ cells, ⟨_, _, [v], cells, rfl, rfl, (fun e => absurd e hg), (fun _ => rfl), DR.length hv, h1⟩, ⟨_, _, rfl, hv, h2⟩⟩
        · cases e
      | _ => simp [chainAV] at e

theorem unchain_ok {Z : Nat → Prop} {h : Array Obj} : ∀ {s : Sh} {x : s.den} {ds : List AV} {vs cells : List Value}, unchain s x = some ds → FlatOf s vs cells → DR Z h s x cells → ArgsR (Cx.bare Z h) K00 ds vs := by
  intro s
  induction s with
  | unit => intro x ds vs cells e h1 h2; cases e; cases h2; cases h1; trivial
  | pair a b iha ihb =>
    intro x ds vs cells e h1 h2
    simp only [unchain] at e
    split at e
    · rename_i r hr
      cases e
      obtain ⟨v, r', c1, c2, rfl, rfl, g1, g2, gl, g3⟩ := h1
      obtain ⟨d1, d2, e, h3, h4⟩ := h2
      have hl : c1.length = d1.length := by rw [DR.length h3, gl]
      obtain ⟨rfl, rfl⟩ := List.append_inj e hl
      refine ⟨?_, ihb hr g3 h4⟩
      rw [SV_VV (by intro y e; cases e), VV_iff (by intro e; cases e)]
      show (if a.isAgg then ∃ arr, v = .agg arr ∧ DR Z h a x.1 arr.toList else DR Z h a x.1 [v])
      by_cases hg : a.isAgg = true
      · rw [if_pos hg]; exact ⟨_, g1 hg, by simpa using h3⟩
      · rw [if_neg hg]; rw [← g2 (by simpa using hg)]; exact h3
    · cases e
  | _ => intro x ds vs cells e; simp [unchain] at e

theorem Rel.freezeBox {w0 : Base} {w : World} {st : St} {t0 : Array Value} {ts : List (Array Value)} {R : Cx} (h : Rel w0 st (t0 :: ts) R w) {t : Nat} {s s2 : Slot} (hg0 : st.get 0 t = some s) (hg : (st.scrub t true []).get 0 t = some s2)
    {v : AV} (hv : s.v = .ptr ⟨⟨0, t, true⟩, [.r 0]⟩) (hb : s.b = .pair .unit v) {sh : Sh} {x : sh.den} (hd : ∀ K cs, VR R v K cs → DR R.Z R.h sh x cs) :
    ∃ R', Rel w0 ((st.scrub t true []).set 0 t ⟨.dp sh x, .undef, s2.fv, s2.fb⟩) (t0 :: ts) R' w := by
  have hN : 0 < st.length := St.get_lt hg0
  have hB : st.kb 0 t = ⟨st.length - 1, t, true, []⟩ := by simp [St.kb]
  -- what the box is
  obtain ⟨b, arr, el, hρ, hh, hc⟩ : ∃ b arr el, R.ρ (st.kb 0 t) = some (.blk b 0) ∧ R.h[b]? = some (.cells arr el (0, 0)) ∧ VR R s.b (st.kb 0 t) arr.toList := by
    rcases h.box 0 t s hg0 with e | e
    · rw [hb] at e; cases e
    · exact e
  rw [hb] at hc
  obtain ⟨c1, c2, e, h1, h2⟩ := hc
  have h1 : c1 = [] := h1
  subst h1
  have hdr := hd _ _ h2
  have hptr : t0.getD t undef = .pointer (some ⟨b, 0, none⟩) := by
    have := h.slot 0 t s t0 hg0 rfl
    rw [hv] at this
    obtain ⟨u, e, _, hp⟩ : VR R (.ptr ⟨⟨0, t, true⟩, [.r 0]⟩) (st.kv 0 t) [t0.getD t undef] := this
    have hnode : ((st.kv 0 t).at ⟨⟨0, t, true⟩, [.r 0]⟩).node = st.kb 0 t := by simp [Key.at, Key.node, nodeOf, St.kv, St.kb]
    rw [hnode, hρ] at hp
    have e : t0.getD t undef = u := by simpa using e
    rw [e]; exact hp
  let st' := (st.scrub t true []).set 0 t ⟨.dp sh x, .undef, s2.fv, s2.fb⟩
  let R' : Cx := { R with ρ := fun K => if K = st.kb 0 t then none else R.ρ K, Z := fun b' => R.Z b' ∨ b' = b }
  have sb : ∀ {K b' n}, R'.ρ K = some (.blk b' n) → K ≠ st.kb 0 t ∧ R.ρ K = some (.blk b' n) := by
    intro K b' n e
    simp only [R'] at e
    split at e
    · cases e
    · rename_i hk; exact ⟨hk, e⟩
  have off : ∀ T, T ≠ st.kb 0 t → R'.ρ T = R.ρ T := fun T hT => if_neg hT
  have ok : ∀ K a, K.apart (st.kb 0 t) → (∀ T, a.hits K T → ¬ T.under (st.kb 0 t)) → R.Ok R' K a := by
    intro K a h1 h2
    refine ⟨⟨fun _ => .inl, fun _ _ _ => id, fun T hT => off T (fun e => h1 T hT (e ▸ Key.under_refl _)), fun _ _ _ _ _ _ => id⟩, fun T hT e => ⟨e, .inr ⟨off T (fun e => h2 T hT (e ▸ Key.under_refl _)), fun b n arr el _ e => ⟨arr, e, rfl⟩⟩⟩⟩
  have hflag : ∀ bx, (⟨.dp sh x, .undef, s2.fv, s2.fb⟩ : Slot).flag bx = s2.flag bx := by intro bx; cases bx <;> rfl
  refine ⟨R', h.step1 (st' := st') (R' := R') (by simp [st', St.length_set, St.length_scrub]) (fun i => by simp only [st', St.frames_set, St.frames_scrub]) rfl h.hh ?_ ?_ ?_ ?_ ?_ ?_ ?_ ?_ h.bel ?_⟩
  · intro lv n bx
    show R.fl lv n bx = st'.fl lv n bx
    rw [h.fl, ← St.fl_scrub st t true [] lv n bx]
    exact (St.fl_set_same hg hflag lv n bx).symm
  · intro i n sl' hsl
    simp only [st', St.get_set] at hsl
    split at hsl
    · rename_i hc
      obtain ⟨rfl, rfl⟩ := hc
      rw [hg] at hsl
      simp only [Option.map_some, Option.some.injEq] at hsl
      subst hsl
      refine ⟨s, hg0, .inr ⟨rfl, ?_⟩⟩
      exact ⟨b, 0, arr, el, (0, 0), arr.toList, [], by rw [hptr], .inr rfl, hh, by simp, by rw [e]; exact hdr.frame (fun b hb => .inl hb) (fun _ _ _ => id)⟩
    · rename_i hc
      obtain ⟨sl0, h0, hle, _, hh', _⟩ := scrub_slot_hits hsl
      exact ⟨sl0, h0, .inl ⟨hle, fun _ => rfl, ok _ _ (Key.apart_symm (kb_kv_apart _ _ _ _ _)) (by rw [hB]; exact hh')⟩⟩
  · intro i n sl' hsl
    simp only [st', St.get_set] at hsl
    split at hsl
    · rename_i hc
      obtain ⟨rfl, rfl⟩ := hc
      rw [hg] at hsl
      simp only [Option.map_some, Option.some.injEq] at hsl
      subst hsl
      exact ⟨s, hg0, .inr (.inl rfl)⟩
    · rename_i hc
      obtain ⟨sl0, h0, _, hle, _, hh'⟩ := scrub_slot_hits hsl
      exact ⟨sl0, h0, .inl ⟨hle, ok _ _ (kb_apart (St.get_lt h0) hN hc) (by rw [hB]; exact hh')⟩⟩
  · intro K K' b1 n m e1 e2; exact h.inj _ _ _ _ _ (sb e1).2 (sb e2).2
  · rintro b1 (hb1 | rfl) K n e
    · exact h.zd b1 hb1 K n (sb e).2
    · exact (sb e).1 (h.inj _ _ _ _ _ (sb e).2 hρ)
  · intro K b1 n e; exact h.lo _ _ _ (sb e).2
  · intro K b1 n e; exact h.lt _ _ _ (sb e).2
  · rintro b1 (hb1 | rfl)
    · exact h.zlt b1 hb1
    · exact h.lt _ _ _ hρ
  · rintro b1 (hb1 | rfl)
    · exact .inl hb1
    · exact .inr (h.lo _ _ _ hρ)

theorem freezeBox_ok {C : Orc} {w0 : Base} {w : World} {st : St} {t0 : Array Value} {ts : List (Array Value)} {R : Cx} (h : Rel w0 st (t0 :: ts) R w) {t : Nat} {k : Unit → St → Prop} (hw : (Ev.freezeBox t).wp C st k) : ∃ st1 R1, k () st1 ∧ Rel w0 st1 (t0 :: ts) R1 w := by
  simp only [Ev.freezeBox, M.wp_rd] at hw
  obtain ⟨s, hs, hw⟩ := hw
  split at hw
  · rename_i t' v fv fb
    split at hw
    · rename_i hc
      obtain ⟨rfl, hD⟩ := hc
      rw [M.wp_bind] at hw
      obtain ⟨sh, x, hw, _, _, _, hd⟩ := data_D (R := R) hD hw
      have hw : ((M.rd 0 t' fun s2 => .wr 0 t' ⟨.dp sh x, .undef, s2.fv, s2.fb⟩ (.pure ())) : M Unit).wp C (st.scrub t' true []) k := hw
      rw [M.wp_rd] at hw
      obtain ⟨s2, hs2, hw⟩ := hw
      rw [M.wp_wr] at hw
      obtain ⟨R1, h1⟩ := h.freezeBox hs hs2 rfl rfl hd
      exact ⟨_, R1, hw.2, h1⟩
    · exact ⟨st, R, hw, h⟩
  · exact ⟨st, R, hw, h⟩

theorem freezeAll_ok {C : Orc} {w0 : Base} {w : World} {t0 : Array Value} {ts : List (Array Value)} : ∀ {xs : List Operand} {st : St} {R : Cx} (h : Rel w0 st (t0 :: ts) R w) {k : Unit → St → Prop}, (freezeAll xs).wp C st k → ∃ st1 R1, k () st1 ∧ Rel w0 st1 (t0 :: ts) R1 w := by
  intro xs
  induction xs with
  | nil => intro st R h k hw; exact ⟨st, R, hw, h⟩
  | cons x xs ih =>
    intro st R h k hw
    cases x with
    | tmp t =>
      simp only [freezeAll, M.wp_bind] at hw
      obtain ⟨st1, R1, hk, h1⟩ := freezeBox_ok h hw
      exact ih h1 hk
    | _ => exact ih h hw

theorem OpOk.makeFunc {P : Program} {E : Env} {C : Orc} {o : Oper} {f : Nat} {cs : Array Operand} (ho : o.op = .makeFunc (.func f) #[] cs) : OpOk P E C o := by
  intro w0 st' a ts R' w k next Q h' hw hn
  simp only [evOp, ho] at hw
  rw [M.wp_bind] at hw
  obtain ⟨st, R, hw, h⟩ := freezeAll_ok h' hw
  rw [M.wp_bind] at hw
  obtain ⟨vs, hk, hl, hvs⟩ := viewArgs_ok h hw
  by_cases hD : vs.all AV.isD = true
  · rw [if_pos hD, M.wp_bind] at hk
    obtain ⟨ds, hk, hargs⟩ := dataArgs_D (a := a) (R := R) (xs := cs.toList) (fun v hv => List.all_eq_true.1 hD v hv) hk hl hvs
    split at hk
    · rename_i s x hc
      obtain ⟨cells, h1, h2⟩ := chain_DR hc hargs
      have hrun : (execOp a.eval o).run P w = .ok (.value (.func (.func f) #[] (cs.map a.eval))) w := by
        simp only [execOp, ho, Instr.makeFunc]; simp
      have hsv : SV R (.d (.fn f s) x) (st.hand 0) (.func (.func f) #[] (cs.map a.eval)) := by
        rw [SV_VV (by intro y e; cases e), VV_iff (by intro e; cases e)]
        exact ⟨_, cells, rfl, by simpa using h1, h2⟩
      exact OpOk.value (j := 0) hrun h hk hsv hn
    · exact hk.elim
  · rw [if_neg hD] at hk; exact hk.elim

theorem run_enterV {P : Program} {o : Oper} {c : Call} {f t : Nat} {arr : Array Value} {a : Act} {w : World} (ho : o.op = .call c) (hc : c.callee = .value (.tmp t)) (ha : a.eval (.tmp t) = .func (.func f) #[] arr) (hf : ∃ fn, P.funcs[f]? = some fn ∧ (fn.name == "runtime.NumGoroutine") = false ∧ fn.body.isNone = false) :
    (execOp a.eval o).run P w = .ok (.enter f (c.args.toList.map a.eval ++ arr.toList).toArray) w := by
  obtain ⟨fn, h1, h2, h3⟩ := hf
  have hargs : (#[] ++ c.args.map a.eval ++ arr : Array Value) = (c.args.toList.map a.eval ++ arr.toList).toArray := by
    apply Array.ext'; simp
  simp only [execOp, ho, resolve, hc, ha, Deferred.ofValue, Sem.run_bind, Sem.run_pure, Result.andThen_ok, invoke, hargs, callFunc]
  have h2' : ¬ fn.name = "runtime.NumGoroutine" := by simpa using h2
  have h3' : ¬ fn.body = none := by intro e; rw [e] at h3; simp at h3
  simp [h1, h2', h3']

theorem argsR_app {R : Cx} {K : Key} : ∀ {as bs : List AV} {us vs : List Value}, ArgsR R K as us → ArgsR R K bs vs → ArgsR R K (as ++ bs) (us ++ vs) := by
  intro as
  induction as with
  | nil => intro bs us vs h1 h2; cases us with
    | nil => exact h2
    | cons => exact h1.elim
  | cons a as ih => intro bs us vs h1 h2; cases us with
    | nil => exact h1.elim
    | cons u us => exact ⟨h1.1, ih h1.2 h2⟩

theorem OpOk.callValue {P : Program} {E : Env} {C : Orc} (hC : OrcOk P E C) {o : Oper} {c : Call} {t : Nat} (ho : o.op = .call c) (hc : c.callee = .value (.tmp t)) : OpOk P E C o := by
  intro w0 st a ts R w k next Q h hw hn
  simp only [evOp, ho, callAV, hc] at hw
  rw [M.wp_bind] at hw
  obtain ⟨u, hw, ⟨K, hK, hu⟩, _⟩ := rawOp_ok h hw
  split at hw
  · rename_i f s x _
    rw [M.wp_bind] at hw
    obtain ⟨cs, hcs, hw⟩ := ofOption_ok hw
    have hu : DR R.Z R.h (.fn f s) x [a.eval (.tmp t)] := by
      rw [SV_VV (by intro y e; cases e), VV_iff (by intro e; cases e)] at hu
      exact hu
    obtain ⟨arr, cells, e, hf, hd⟩ := hu
    have e : a.eval (.tmp t) = .func (.func f) #[] arr := by simpa using e
    rw [M.wp_bind] at hw
    obtain ⟨vs, hk, hl, hvs⟩ := viewArgs_ok h hw
    rw [M.wp_bind] at hk
    have main : ∀ (Z : Nat → Prop) (ds : List AV) (r : Pk), (∀ b, Z b → b < w.heap.size) → ArgsR (Cx.bare Z w.heap) K00 (ds ++ cs) (c.args.toList.map a.eval ++ arr.toList) → PureC P (E.tup f) f (ds ++ cs) r → ((∀ b, Z b → R.Z b) ∨ closed r.s r.o = true) →
        (dstT o (asTup (E.tup f) (unpackT (E.tup f) r))).wp C st k → o.wp P a w next Q := by
      intro Z ds r hZ hargs hp hcl hk
      have hrun := run_enterV (P := P) (o := o) (a := a) (w := w) ho hc e hp.fn
      simp only [Oper.wp, hrun, Oper.upon]
      refine Calls.mono' (hp.run w Z (w0.gl.below h.bel) _ hZ hargs) ?_
      rintro e w' ⟨v, R', rfl, h', hv⟩
      obtain ⟨R2, h2, hv2⟩ := h.called h' hcl hv
      obtain ⟨st3, R3, hk, h3⟩ := dstT_ok h2 hk hv2
      exact hn _ st3 R3 _ (put_defers _ _ _) h3 hk
    by_cases hD : vs.all AV.isD = true
    · obtain ⟨ds, hk, hargs⟩ := dataArgs_D (a := a) (R := R) (xs := c.args.toList) (fun v hv => List.all_eq_true.1 hD v hv) hk hl hvs
      obtain ⟨r, hr, _, hk⟩ := hk
      rw [h.hh] at hargs hd
      exact main R.Z ds r h.zlt (argsR_app hargs (unchain_ok hcs hf hd)) (hC.pc _ _ _ hr) (.inl fun _ => id) hk
    · obtain ⟨ds, hk, hargs⟩ := dataArgs_ok h hk hl hvs
      obtain ⟨r, hr, hcl, hk⟩ := hk
      rw [h.hh] at hargs hd
      refine main R.allZ ds r ?_ (argsR_app hargs (unchain_ok hcs hf (hd.frame (fun b hb => .inl hb) (fun _ _ _ => id)))) (hC.pc _ _ _ hr) (.inr (hcl (by simpa using hD))) hk
      rintro b (hb | ⟨K, n, hb⟩)
      · exact h.zlt b hb
      · exact h.lt _ _ _ hb
  · exact hw.elim

end Go.Proofs.Ytlndfmmigndgeaa.Ev

/- All operations. -/
namespace Go.Proofs.Ytlndfmmigndgeaa.Ev
open Go
set_option linter.unusedSimpArgs false
set_option linter.unusedVariables false

theorem lookArgs_ok {C : Orc} {w0 : Base} {w : World} {st : St} {a : Act} {ts : List (Array Value)} {R : Cx} (h : Rel w0 st (a.tmps :: ts) R w) : ∀ {xs : List Operand} {k : List AV → St → Prop}, (lookArgs xs).wp C st k → ∃ vs, k vs st ∧ (∀ v ∈ vs, v.hasOwn = false) ∧ ∀ K : Key, K.lv = st.length - 1 → ArgsR R K vs (xs.map a.eval) := by
  intro xs
  induction xs with
  | nil => intro k hw; exact ⟨[], hw, (fun v hv => by simp at hv), fun K _ => trivial⟩
  | cons x xs ih =>
    intro k hw
    simp only [lookArgs, M.wp_bind] at hw
    obtain ⟨v, hk, ho, hv⟩ := viewOp_ok h hw
    obtain ⟨vs, hk, hos, hvs⟩ := ih hk
    exact ⟨_, hk, (fun u hu => by rcases List.mem_cons.1 hu with rfl | hu; exact ho; exact hos u hu), fun K hK => ⟨hv K hK, hvs K hK⟩⟩

theorem OpOk.callInl {P : Program} {E : Env} {C : Orc} (hC : OrcOk P E C) {o : Oper} {c : Call} {f : Nat} (ho : o.op = .call c) (hc : c.callee = .value (.func f)) (hi : E.inl f = true) : OpOk P E C o := by
  intro w0 st a ts R w k next Q h hw hn
  simp only [evOp, ho, callAV, hc] at hw
  rw [if_pos hi, M.wp_bind] at hw
  obtain ⟨st0, R0, hw, h⟩ := flagOps_ok h hw
  rw [M.wp_bind] at hw
  obtain ⟨vs, hk, hos, hvs⟩ := lookArgs_ok h hw
  obtain ⟨r, st', hr, hk⟩ := hk
  rw [St.forceK_eq, AV.force_eq] at hk
  have hp := hC.ic _ _ _ _ _ hr
  have hrun := run_enter (P := P) (o := o) (a := a) (w := w) ho hc hp.fn
  simp only [Oper.wp, hrun, Oper.upon]
  refine Calls.mono' (hp.run w0 w _ R0 _ h hvs hos) ?_
  rintro e w' ⟨v, R', rfl, h', hl, hv⟩
  obtain ⟨st3, R3, hk, h3⟩ := dstT_ok h' hk hv
  exact hn _ st3 R3 _ (put_defers _ _ _) h3 hk

theorem opOk {P : Program} {E : Env} (hE : EnvOk P E) {C : Orc} (hC : OrcOk P E C) (o : Oper) : OpOk P E C o := by
  have bad : (evOp E o = .fail) → OpOk P E C o := by
    intro e w0 st a ts R w k next Q h hw hn
    rw [e] at hw; exact hw.elim
  cases ho : o.op with
  | move x => exact OpOk.move ho
  | assign x => exact OpOk.assign ho
  | pick c x y => exact OpOk.pick ho
  | alloc t => exact OpOk.alloc hE ho
  | box t x => exact OpOk.box ho
  | build t ps => exact OpOk.build hE ho
  | buildSlice t n ps => exact OpOk.buildSlice hE ho
  | load t x => exact OpOk.load hE ho
  | store t p x => exact OpOk.store hE ho
  | nilCheck x => exact OpOk.nilCheck ho
  | binOp op t x y t' => exact OpOk.binOp hE ho
  | unOp op t x => exact OpOk.unOp ho
  | convert f t x => exact OpOk.convert hE ho
  | makeSlice t l c => exact OpOk.makeSlice hE ho
  | slice t x lo hi mx =>
    cases mx with
    | none => exact OpOk.slice hE ho
    | some m => exact bad (by simp only [evOp, ho])
  | fieldAddr t x n => exact OpOk.fieldAddr hE ho
  | field t x n => exact OpOk.field hE ho
  | indexAddr t x y => exact OpOk.indexAddr hE ho
  | index t x y => exact OpOk.index hE ho
  | extract x i => exact OpOk.extract ho
  | call c =>
    cases hc : c.callee with
    | builtin b =>
      cases b with
      | len => exact OpOk.len hE ho hc
      | append => exact OpOk.append hE ho hc
      | max => exact OpOk.max ho hc
      | min => exact OpOk.min ho hc
      | _ => exact bad (by simp only [evOp, ho, callAV, hc])
    | value x =>
      cases x with
      | func f =>
        cases hi : E.inl f with
        | true => exact OpOk.callInl hC ho hc hi
        | false => exact OpOk.callPure hC ho hc hi
      | tmp t => exact OpOk.callValue hC ho hc
      | _ => exact bad (by simp only [evOp, ho, callAV, hc])
    | _ => exact bad (by simp only [evOp, ho, callAV, hc])
  | makeFunc fn first cs =>
    cases fn with
    | func f =>
      obtain ⟨l⟩ := first
      cases l with
      | nil => exact OpOk.makeFunc ho
      | cons => exact bad (by simp only [evOp, ho])
    | _ => exact bad (by simp only [evOp, ho])
  | _ => exact bad (by simp only [evOp, ho])

/-! ### Regions -/

theorem St.set_self {st : St} {k s : Nat} {v : Slot} (hg : st.get k s = some v) : st.set k s v = st := by
  apply List.ext_getElem?
  intro i
  simp only [St.set, List.getElem?_modify]
  by_cases hi : k = i
  · subst hi
    simp only [St.get] at hg
    cases hf : st[k]? with
    | none => simp
    | some f =>
      simp only [hf, Option.bind_some] at hg
      simp only [if_true]
      show some (f.set s v) = some f
      congr 1
      apply List.ext_getElem?
      intro j
      by_cases hj : s = j
      · subst hj
        have := (List.getElem?_eq_some_iff.1 hg).1
        rw [List.getElem?_set_self this, hg]
      · simp [hj]
  · simp [hi]

theorem slot_eta {s : Slot} {v : AV} (h : s.v = v) : ({ s with v := v } : Slot) = s := by cases s; simp at h; simp [h]

/-- A slot of an operation that is skipped. -/
theorem skip_SV {R : Cx} {K : Key} : SV R (.tup .unit) K undef := ⟨#[], rfl, rfl⟩

theorem SV_skip {R : Cx} {K : Key} {v : Value} (h : SV R (.tup .unit) K v) : v = .tuple #[] := by
  obtain ⟨vs, rfl, h⟩ := h
  have h : vs.toList = [] := h
  rw [show vs = #[] from by cases vs; simp_all]

theorem evOps_ok {P : Program} {E : Env} (hE : EnvOk P E) {C : Orc} (hC : OrcOk P E C) {ops : Array Oper} : ∀ (r : List Oper) (n : Nat), ops.toList.drop n = r →
    ∀ {w0 : Base} {w : World} {st : St} {a : Act} {ts : List (Array Value)} {R : Cx} {k : Unit → St → Prop} {Q : Exit → Act → World → Prop}, Rel w0 st (a.tmps :: ts) R w → (evOps E ops.toList r).wp C st k →
    (∀ (a' : Act) (st' : St) (R' : Cx) (w' : World), a'.defers = a.defers → Rel w0 st' (a'.tmps :: ts) R' w' → k () st' → Q .normal a' w') →
    wpOps P ops Q (List.range' n r.length) a w := by
  intro r
  induction r with
  | nil =>
    intro n hd w0 w st a ts R k Q h hw hn
    exact hn a st R w rfl h hw
  | cons o r ih =>
    intro n hd w0 w st a ts R k Q h hw hn
    have hget : ops[n]? = some o := by
      have : ops.toList[n]? = some o := by
        have e : (ops.toList.drop n)[0]? = some o := by rw [hd]; rfl
        rw [List.getElem?_drop] at e
        simpa using e
      simpa using this
    have hd' : ops.toList.drop (n + 1) = r := by
      rw [← List.drop_drop, hd]; rfl
    simp only [List.length_cons, List.range'_succ, wpOps, hget]
    have step : ∀ {k' : Unit → St → Prop}, Region.wanted o (yielded ops a.tmps) = true → (evOp E o).wp C st (fun _ st' => (evOps E ops.toList r).wp C st' k) →
        (if Region.wanted o (yielded ops a.tmps) = true then o.wp P a w (wpOps P ops Q (List.range' (n + 1) r.length)) Q ∨ (o.asks P a w ∧ LetsOut Q) else wpOps P ops Q (List.range' (n + 1) r.length) (a.put o.dst undef) w) := by
      intro k' hwant hw
      rw [if_pos hwant]
      refine .inl (opOk hE hC o w0 st a ts R w _ _ Q h hw ?_)
      intro a' st' R' w' hdf h' hk
      exact ih (n + 1) hd' h' hk (fun a'' st'' R'' w'' hdf' h'' hk' => hn a'' st'' R'' w'' (hdf'.trans hdf) h'' hk')
    simp only [evOps] at hw
    cases hg : o.guard with
    | none =>
      rw [hg] at hw
      simp only [M.wp_bind] at hw
      exact step (k' := k) (by simp [Region.wanted, hg]) hw
    | some jw =>
      obtain ⟨j, want⟩ := jw
      rw [hg] at hw
      simp only at hw
      split at hw
      · rename_i t ht
        rw [M.wp_rd] at hw
        obtain ⟨s, hs, hw⟩ := hw
        split at hw
        · rename_i b hb
          have hsv := h.slot 0 t s _ hs rfl
          rw [hb] at hsv
          have hval := SV_bool hsv
          have hlt := h.size_lt hs
          have hy : yielded ops a.tmps j = some b := by
            have ht' : ((ops[j]?).bind (·.dst)) = some t := by rw [← Array.getElem?_toList]; exact ht
            have hv' : a.tmps[t]? = some (.bool b) := by
              rw [Array.getD_eq_getD_getElem?] at hval
              rw [Array.getElem?_eq_getElem hlt] at hval ⊢
              simpa using hval
            simp only [yielded, ht', Option.bind_some, hv']
          by_cases hbw : (b == want) = true
          · simp only [M.wp, hbw, cond_true] at hw
            have hbe : b = want := by simpa using hbw
            rw [Slot.force_eq, St.setK_eq, hs] at hw
            rw [slot_eta (by rw [hb, hbe]), St.set_self hs] at hw
            simp only [M.wp_bind] at hw
            exact step (k' := k) (by simp [Region.wanted, hg, hy, hbe]) hw
          · have hbw' : (b == want) = false := by simpa using hbw
            simp only [M.wp, hbw', cond_false] at hw
            have hbe : b = !want := by cases b <;> cases want <;> simp at hbw' ⊢
            rw [Slot.force_eq, St.setK_eq, hs] at hw
            rw [slot_eta (by rw [hb, hbe]), St.set_self hs] at hw
            have hnw : ¬ Region.wanted o (yielded ops a.tmps) = true := by
              simp only [Region.wanted, hg, hy]
              intro e
              have : b = want := by simpa using e
              rw [this] at hbw'; simp at hbw'
            rw [if_neg hnw]
            simp only [M.wp_bind] at hw
            obtain ⟨st1, R1, hk, h1⟩ := dstT_ok h hw (j := 0) (val := undef) skip_SV
            exact ih (n + 1) hd' h1 hk (fun a'' st'' R'' w'' hdf' h'' hk' => hn a'' st'' R'' w'' (hdf'.trans (put_defers _ _ _)) h'' hk')
        · rename_i hb
          have hsv := h.slot 0 t s _ hs rfl
          rw [hb] at hsv
          have hval := SV_skip hsv
          have hlt := h.size_lt hs
          have hy : yielded ops a.tmps j = none := by
            have ht' : ((ops[j]?).bind (·.dst)) = some t := by rw [← Array.getElem?_toList]; exact ht
            have hv' : a.tmps[t]? = some (.tuple #[]) := by
              rw [Array.getD_eq_getD_getElem?] at hval
              rw [Array.getElem?_eq_getElem hlt] at hval ⊢
              simpa using hval
            simp only [yielded, ht', Option.bind_some, hv']
          have hnw : ¬ Region.wanted o (yielded ops a.tmps) = true := by simp [Region.wanted, hg, hy]
          rw [if_neg hnw]
          simp only [M.wp_bind] at hw
          obtain ⟨st1, R1, hk, h1⟩ := dstT_ok h hw (j := 0) (val := undef) skip_SV
          exact ih (n + 1) hd' h1 hk (fun a'' st'' R'' w'' hdf' h'' hk' => hn a'' st'' R'' w'' (hdf'.trans (put_defers _ _ _)) h'' hk')
        · exact hw.elim
      · exact hw.elim

end Go.Proofs.Ytlndfmmigndgeaa.Ev
