/- A proved evaluator for translated functions, part 3: what it computes is what the machine does. No conditions. -/
import Derived.Test.YtgebhckfdcajoaaEv2
/- Functions that are handed views of the caller's places. -/
namespace Go.Proofs.Ytgebhckfdcajoaa.Ev
open Go
set_option linter.unusedSimpArgs false
set_option linter.unusedVariables false

/-- A value as the called frame sees it. -/
def AV.inner (v : AV) : AV := viewOf ⟨⟨1, 0, false⟩, []⟩ v

theorem inlC_of {P : Program} {E : Env} (hE : EnvOk P E) {C : Orc} (hC : OrcOk P E C) {keep : Nat → List Nat} {f : Nat} {fn : Func} (hf : P.funcs[f]? = some fn) (hname : (fn.name == "runtime.NumGoroutine") = false) {body : Code} (hb : fn.body = some body) {n : Nat} (hn : fn.ntmps = n)
    {rs : List ResultVar} (hrs : fn.results.toList = rs) {ss : List Sh} {vs : List AV} {st : St} (hst : 0 < st.length) (hgood : vs.all (fun v => !v.isBad) = true) (hlen : vs.length ≤ n) {r : AV} {st2 : St}
    (hev : evInl E C keep ss rs n body (vs.map AV.inner) st fun r' st' => r' = r ∧ st' = st2) : InlC P (rs.length != 1) f vs st r st2 := by
  refine ⟨⟨fn, hf, hname, by rw [hb]; rfl⟩, ?_⟩
  intro w0 w ts R vals h hvals hos
  have hargs := hvals ⟨st.length - 1, 0, false, []⟩ rfl
  have hvl := hargs.length
  refine calls_of_wp hf hb ?_
  let t0 : Array Value := vals.toArray ++ Array.replicate (fn.ntmps - vals.toArray.size) undef
  let fr : Frm := startFrm (vs.map AV.inner) n
  let st1 : St := fr :: st
  let R1 : Cx := { R with fl := st1.fl }
  have hget : ∀ (s : Nat) (sl : Slot), fr[s]? = some sl → (∃ a : AV, vs[s]? = some a ∧ sl = argSlot a.inner) ∨ sl = emptySlot := by
    intro s sl hg
    simp only [fr, startFrm] at hg
    by_cases hs : s < vs.length
    · rw [List.getElem?_append_left (by simpa using hs), List.getElem?_map, List.getElem?_map] at hg
      cases ha : vs[s]? with
      | none => rw [ha] at hg; simp at hg
      | some a => rw [ha] at hg; simp only [Option.map_some, Option.some.injEq] at hg; exact .inl ⟨a, rfl, hg.symm⟩
    · rw [List.getElem?_append_right (by simpa using hs), List.getElem?_replicate] at hg
      split at hg
      · simp only [Option.some.injEq] at hg; exact .inr hg.symm
      · simp at hg
  have hfl : ∀ lv m bx, lv < st.length → st1.fl lv m bx = st.fl lv m bx := by
    intro lv m bx hl
    have e : st.length + 1 - 1 - lv = (st.length - 1 - lv) + 1 := by omega
    have hg : ∀ i s, St.get st1 (i + 1) s = st.get i s := by intro i s; simp [st1, St.get]
    simp only [St.fl, st1, List.length_cons, e]
    rw [show St.get (fr :: st) (st.length - 1 - lv + 1) m = st.get (st.length - 1 - lv) m from hg _ _]
    have h1 : decide (lv < st.length + 1) = true := by simp; omega
    have h2 : decide (lv < st.length) = true := by simp; omega
    rw [h1, h2]
  have frame : ∀ {K : Key} {v : AV}, K.lv < st.length → R.Ok R1 K v := by
    intro K v hl
    refine ⟨⟨fun _ => id, fun _ _ _ => id, fun _ _ => rfl, fun _ _ _ _ _ _ => id⟩, fun T hT e => ⟨?_, .inr ⟨rfl, fun b n arr el _ e => ⟨arr, e, rfl⟩⟩⟩⟩
    show st1.fl T.lv T.s T.bx = true
    rw [hfl _ _ _ (Nat.lt_of_le_of_lt (hits_lv_le hT) hl), ← h.fl]
    exact e
  have hrel : Rel w0 st1 (t0 :: ts) R1 w := by
    refine ⟨h.hh, fun _ _ _ => rfl, by simp [st1, h.len], ?_, ?_, ?_, h.inj, h.zd, h.lo, h.lt, h.zlt, h.bel, h.zlo⟩
    · intro i g t hg ht
      cases i with
      | zero =>
        simp only [st1, List.getElem?_cons_zero, Option.some.injEq] at hg ht
        subst hg ht
        simp only [fr, startFrm, t0, List.length_append, List.length_map, List.length_replicate, Array.size_append, List.size_toArray, Array.size_replicate, hvl, hn]
      | succ i => exact h.sz i g t (by simpa [st1] using hg) (by simpa using ht)
    · intro i s sl t hg ht
      cases i with
      | zero =>
        simp only [List.getElem?_cons_zero, Option.some.injEq] at ht
        subst ht
        have hg : fr[s]? = some sl := by simpa [st1, St.get] using hg
        rcases hget s sl hg with ⟨a, ha, rfl⟩ | rfl
        · obtain ⟨v, hv, hsv⟩ := hargs.get s a ha
          have hs : s < vals.length := by have := (List.getElem?_eq_some_iff.1 ha).1; omega
          have hval : t0.getD s undef = v := by
            rw [Array.getD_eq_getD_getElem?]
            simp only [t0]
            rw [Array.getElem?_append_left (by simpa using hs)]
            simp [hv]
          rw [hval]
          have hb : a.isBad = false := by
            have := List.all_eq_true.1 hgood a (List.mem_of_getElem? ha)
            simpa using this
          have ho := hos a (List.mem_of_getElem? ha)
          have h1 : SV R1 a ⟨st.length - 1, 0, false, []⟩ v := by
            obtain ⟨q1, q2⟩ := frame (K := ⟨st.length - 1, 0, false, []⟩) (v := a) (by show st.length - 1 < st.length; omega)
            exact SV.frame (AV.le_refl _) q1 q2 hsv
          show SV R1 a.inner (st1.kv 0 s) v
          refine viewOf_SV (q := ⟨⟨1, 0, false⟩, []⟩) (K := ⟨st.length - 1, 0, false, []⟩) ?_ ?_ (fun e => by rw [ho] at e; simp at e) hb h1
          · simp [Key.at, St.kv, st1]
          · simp [St.kv, st1]; omega
        · trivial
      | succ i =>
        have hg : st.get i s = some sl := by simpa [st1, St.get] using hg
        have := h.slot i s sl t hg (by simpa using ht)
        have hi := St.get_lt hg
        have e : St.kv st1 (i + 1) s = st.kv i s := by simp only [St.kv, st1, List.length_cons, Key.mk.injEq, and_true]; omega
        rw [e]
        obtain ⟨q1, q2⟩ := frame (K := st.kv i s) (v := sl.v) (by simp only [St.kv]; omega)
        exact SV.frame (AV.le_refl _) q1 q2 this
    · intro i s sl hg
      cases i with
      | zero =>
        have hg : fr[s]? = some sl := by simpa [st1, St.get] using hg
        rcases hget s sl hg with ⟨a, ha, rfl⟩ | rfl
        · exact .inl rfl
        · exact .inl rfl
      | succ i =>
        have hg : st.get i s = some sl := by simpa [st1, St.get] using hg
        have := h.box i s sl hg
        have hi := St.get_lt hg
        have e : St.kb st1 (i + 1) s = st.kb i s := by simp only [St.kb, st1, List.length_cons, Key.mk.injEq, and_true]; omega
        rw [e]
        obtain ⟨q1, q2⟩ := frame (K := st.kb i s) (v := sl.b) (by simp only [St.kb]; omega)
        exact BoxR.frame (AV.le_refl _) q1 q2 this
  unfold evInl at hev
  refine evCode_ok hE hC (w0 := w0) (ts := ts) [] body (a := { tmps := t0, defers := [] }) hrel rfl hev ?_
  intro e st' a' R' w' hk hd h'
  have fin : ((retM E ss rs).wp C st' fun v st' => ∃ r', v.lower = some r' ∧ r' = r ∧ st'.tail = st2) → a'.defers = [] ∧ ∃ v, (results fn a'.tmps).run P w' = .ok v w' ∧ ∃ v' R'', Ending.returned v = .returned v' ∧ Rel w0 st2 ts R'' w' ∧ st2.length = st.length ∧ SV R'' (asTup (rs.length != 1) r) (st2.hand 0) v' := by
    intro hk
    obtain ⟨v, u, r', st3, R2, hrun, hlow, ⟨hrr, htl⟩, hl2, h2, hsv⟩ := ret_okI (P := P) hE hrs h' (k := fun r' st' => r' = r ∧ st' = st2) hk
    subst hrr
    refine ⟨hd, v, hrun, v, ?_⟩
    have hlen2 : st3.length = ts.length + 1 := by have := h2.len; simpa using this
    have hts : st.length = ts.length := h.len
    cases st3 with
    | nil => simp at hlen2
    | cons g o =>
      simp only [List.tail_cons] at htl
      subst htl
      obtain ⟨R3, h3, hz3, hh3, hρ3, hT3⟩ := h2.popped
      have hol : o.length = ts.length := by simpa using hlen2
      have hlenpos : 0 < o.length := by rw [hol, ← hts]; exact hst
      refine ⟨R3, rfl, h3, by rw [hol, hts], lower_SV (A := St.hand (g :: o) 0) (B := St.hand o 0) (N := o.length) (by simp [St.hand]) (by simp [St.hand]) hlenpos hz3 hh3 hρ3 hT3 hlow hsv⟩
  cases e with
  | normal => exact fin hk
  | exit id => exact hk.elim
  | ret => exact fin hk

end Go.Proofs.Ytgebhckfdcajoaa.Ev

/- Arguments of a row, read as data. -/
namespace Go.Proofs.Ytgebhckfdcajoaa.Ev
open Go
set_option linter.unusedSimpArgs false
set_option linter.unusedVariables false

/-- Bytes that a value of a shape takes at least. -/
def bytesSh : Sh → Nat
  | .int k => k.bits / 8
  | .bool => 1
  | .str => 16
  | .sl _ => 24
  | .unit => 0
  | .pair a b => bytesSh a + bytesSh b

/-- The table tells no fewer bytes of a slice's elements. -/
def EnvB (E : Env) : Prop := ∀ t e, E.sh t = some (.sl e) → bytesSh e ≤ E.bytes t

/-- What data of a row's arguments are like. -/
def WfD : (s : Sh) → s.den → Prop
  | .int k, n => (Lit.int k n).wf = true
  | .str, x => x.size ≤ 140737488351232
  | .pair a b, x => WfD a x.1 ∧ WfD b x.2
  | .sl e, l => l.length * bytesSh e ≤ 140737488351232 ∧ l.length ≤ maxLen ∧ ∀ y, y ∈ l → WfD e y
  | _, _ => True

theorem mapM_cons_some {α β : Type} {f : α → Option β} {a : α} {l : List α} {r : List β} (h : (a :: l).mapM f = some r) : ∃ b r', f a = some b ∧ l.mapM f = some r' ∧ r = b :: r' := by
  simp only [List.mapM_cons, Option.bind_eq_bind, Option.pure_def, Option.bind_eq_some_iff, Option.some.injEq] at h
  obtain ⟨b, hb, r', hr, e⟩ := h
  exact ⟨b, r', hb, hr, e.symm⟩

theorem mapM_range_get {β : Type} {f : Nat → Option β} {n : Nat} {r : List β} (h : (List.range n).mapM f = some r) : r.length = n ∧ ∀ i, i < n → ∃ b, f i = some b ∧ r[i]? = some b := by
  have key : ∀ (m k : Nat) (r : List β), (List.range' k m).mapM f = some r → r.length = m ∧ ∀ i, i < m → ∃ b, f (k + i) = some b ∧ r[i]? = some b := by
    intro m
    induction m with
    | zero => intro k r h; simp at h; subst h; exact ⟨rfl, fun i hi => by omega⟩
    | succ m ih =>
      intro k r h
      rw [List.range'_succ] at h
      obtain ⟨b, r', hb, hr, rfl⟩ := mapM_cons_some h
      obtain ⟨h1, h2⟩ := ih (k + 1) r' hr
      refine ⟨by simp [h1], ?_⟩
      intro i hi
      cases i with
      | zero => exact ⟨b, hb, rfl⟩
      | succ i =>
        obtain ⟨b', e1, e2⟩ := h2 i (by omega)
        exact ⟨b', by rw [← e1]; congr 1; omega, by simpa using e2⟩
  rw [List.range_eq_range'] at h
  obtain ⟨h1, h2⟩ := key n 0 r h
  exact ⟨h1, fun i hi => by simpa using h2 i hi⟩

theorem cellsOf_eq {P : Program} {t : TypeId} {i : TypeInfo} (h : P.info? t = some i) : P.cellsOf t = i.size := by simp [Program.cellsOf, h]

/-- Cells read at an address. -/
theorem cells_at {w : World} {a : Addr} {n : Nat} {c : List Value} (h : w.cells? 0 a n = some c) : c.length = n ∧ (n ≠ 0 → ∃ arr el fr, a.spot = none ∧ w.heap[a.block]? = some (.cells arr el fr) ∧ ∃ r, arr.toList.drop a.off = c ++ r) := by
  unfold World.cells? at h
  rw [if_pos (Nat.zero_le _)] at h
  obtain ⟨h1, h2⟩ := mapM_range_get h
  refine ⟨h1, fun hn => ?_⟩
  have hspot : a.spot = none := by
    obtain ⟨b, e1, _⟩ := h2 0 (by omega)
    have e0 : a.add 0 = a := by unfold Addr.add; simp
    rw [e0] at e1
    unfold World.cell? at e1
    split at e1
    · by_cases hs : a.spot.isSome = true
      · rw [if_pos hs] at e1; simp at e1
      · simpa using hs
    · simp at e1
  have get : ∀ i, i < n → ∃ arr el fr, a.spot = none ∧ w.heap[a.block]? = some (.cells arr el fr) ∧ arr[a.off + i]? = c[i]? := by
    intro i hi
    obtain ⟨b, e1, e2⟩ := h2 i hi
    have ha : a.add i = ⟨a.block, a.off + i, none⟩ := by
      cases a with | mk b o s => simp only at hspot; subst hspot; exact addr_add b o i
    rw [ha] at e1
    unfold World.cell? at e1
    split at e1
    · rename_i arr el fr hh
      simp at e1
      exact ⟨arr, el, fr, hspot, hh, by rw [e2]; simpa using e1⟩
    · simp at e1
  obtain ⟨arr, el, fr, hs, hh, _⟩ := get 0 (by omega)
  refine ⟨arr, el, fr, hs, hh, (arr.toList.drop a.off).drop n, ?_⟩
  apply List.ext_getElem?
  intro i
  by_cases hi : i < n
  · obtain ⟨arr', el', fr', _, hh', e⟩ := get i hi
    rw [hh] at hh'
    cases hh'
    rw [List.getElem?_append_left (by omega), List.getElem?_drop, ← e]
    simp
  · rw [List.getElem?_append_right (by omega), h1]
    simp only [List.getElem?_drop]
    congr 1
    omega

theorem trod_fields {P : Program} {E : Env} (hE : EnvOk P E) {w : World} {α : Type} {g : TypeId → List Value → Option α} {ok : TypeId → α → Prop} (ih : ∀ {t : TypeId} {s : Sh} {cs : List Value} {y : α}, E.sh t = some s → g t cs = some y → ok t y → ∃ x, DR (fun b => b < w.heap.size) w.heap s x cs ∧ WfD s x) :
    ∀ {s : Sh} {fs : List Field} {off : Nat} {cs : List Value} {ys : List α}, fldB P E fs s off = true → fs.mapM (fun f => g f.type ((cs.drop f.offset).take (P.cellsOf f.type))) = some ys → (∀ (i : Nat) (f : Field) (y : α), fs[i]? = some f → ys[i]? = some y → ok f.type y) → ∃ x, DR (fun b => b < w.heap.size) w.heap s x ((cs.drop off).take s.size) ∧ WfD s x := by
  intro s
  induction s with
  | pair a b iha ihb =>
    intro fs off cs ys hb h hok
    cases fs with
    | nil => simp [fldB] at hb
    | cons f fs =>
      simp only [fldB, Bool.and_eq_true, beq_iff_eq, bne_iff_ne, ne_eq] at hb
      obtain ⟨⟨⟨h1, h2⟩, h3⟩, h4⟩ := hb
      obtain ⟨y, ys', e1, e2, rfl⟩ := mapM_cons_some h
      obtain ⟨i, z, hi, hsz, _⟩ := tyB_info (hE.sh _ _ h2)
      rw [cellsOf_eq hi, hsz, h1] at e1
      obtain ⟨x1, d1, w1⟩ := ih h2 e1 (hok 0 f y rfl rfl)
      obtain ⟨x2, d2, w2⟩ := ihb h4 e2 (fun i f y a b => hok (i + 1) f y (by simpa using a) (by simpa using b))
      refine ⟨(x1, x2), ⟨_, _, ?_, d1, d2⟩, w1, w2⟩
      rw [show (Sh.pair a b).size = a.size + b.size from rfl, List.take_add, List.drop_drop]
  | unit =>
    intro fs off cs ys hb h hok
    exact ⟨(), by simp [DR, Sh.size], trivial⟩
  | _ => intro fs off cs ys hb h; cases fs <;> simp [fldB] at hb

theorem segBuild {α : Type} {Q : α → List Value → Prop} {W : α → Prop} {cs : List Value} {off z : Nat} : ∀ (m k : Nat), (∀ i, k ≤ i → i < k + m → ∃ c r x, cs.drop (off + i * z) = c ++ r ∧ c.length = z ∧ Q x c ∧ W x) → ∃ l : List α, l.length = m ∧ Seg Q l (cs.drop (off + k * z)) ∧ ∀ y, y ∈ l → W y := by
  intro m
  induction m with
  | zero => intro k _; exact ⟨[], rfl, trivial, fun y hy => by simp at hy⟩
  | succ m ih =>
    intro k h
    obtain ⟨c, r, x, h1, h2, h3, h4⟩ := h k (Nat.le_refl _) (by omega)
    obtain ⟨l, l1, l2, l3⟩ := ih (k + 1) (fun i a b => h i (by omega) (by omega))
    refine ⟨x :: l, by simp [l1], ⟨c, r, h1, h3, ?_⟩, fun y hy => ?_⟩
    · have e : off + (k + 1) * z = off + k * z + z := by rw [Nat.succ_mul]; omega
      rw [e, ← List.drop_drop, h1, ← h2] at l2
      simpa using l2
    · rcases List.mem_cons.1 hy with rfl | hy
      · exact h4
      · exact l3 y hy

theorem weightsEach_get {H : Type} {P : Program} : ∀ {ts : List TypeId} {ds : List (DataW H)} (i : Nat) {t : TypeId} {d : DataW H}, ts[i]? = some t → ds[i]? = some d → ∀ n, n ∈ d.weights P t → n ∈ DataW.weightsEach P ts ds := by
  intro ts
  induction ts with
  | nil => intro ds i t d h; simp at h
  | cons t0 ts ih =>
    intro ds i t d h1 h2 n hn
    cases ds with
    | nil => simp at h2
    | cons d0 ds =>
      simp only [DataW.weightsEach, List.mem_append]
      cases i with
      | zero => simp only [List.getElem?_cons_zero, Option.some.injEq] at h1 h2; subst h1 h2; exact .inl hn
      | succ i => exact .inr (ih i (by simpa using h1) (by simpa using h2) n hn)

theorem weightsAll_get {H : Type} {P : Program} {e : TypeId} : ∀ {ds : List (DataW H)} {d : DataW H}, d ∈ ds → ∀ n, n ∈ d.weights P e → n ∈ DataW.weightsAll P e ds := by
  intro ds
  induction ds with
  | nil => intro d h; simp at h
  | cons d0 ds ih =>
    intro d h n hn
    simp only [DataW.weightsAll, List.mem_append]
    rcases List.mem_cons.1 h with rfl | h
    · exact .inl hn
    · exact .inr (ih h n hn)

/-- What a row reads as data is frozen data. -/
theorem trod_DR {P : Program} {E : Env} (hE : EnvOk P E) {H : Type} {enc : TypeId × Value → H} {w : World} {spare : Nat → Bool} {held : Bool} (hB : EnvB E) : ∀ (fuel : Nat) {t : TypeId} {s : Sh} {cs : List Value} {y : DataW H × List MemPlace}, E.sh t = some s →
    DataW.trod enc P w 0 spare held fuel t cs = some y → (∀ n, n ∈ y.1.weights P t → n ≤ reachBytes) → ∃ x, DR (fun b => b < w.heap.size) w.heap s x cs ∧ WfD s x := by
  intro fuel
  induction fuel with
  | zero => intro t s cs y _ h _; simp [DataW.trod] at h
  | succ fuel ih =>
    intro t s cs y hs h hwt
    have hty := hE.sh _ _ hs
    unfold DataW.trod at h
    cases s with
    | int k =>
      rw [(tyB_scalar hty).1 k rfl] at h
      split at h <;> rename_i e <;> simp at e <;> try (simp at h; done)
      subst e
      split at h
      · rename_i hc; obtain ⟨rfl, hwf⟩ := hc; exact ⟨_, rfl, hwf⟩
      · simp at h
    | bool =>
      rw [(tyB_scalar hty).2.2 rfl] at h
      split at h <;> rename_i e <;> simp at e <;> try (simp at h; done)
      exact ⟨_, rfl, trivial⟩
    | str =>
      rw [(tyB_scalar hty).2.1 rfl] at h
      split at h <;> rename_i e <;> simp at e <;> try (simp at h; done)
      split at h
      · rename_i s0 hc
        simp only [Option.some.injEq] at h
        subst h
        refine ⟨_, rfl, ?_⟩
        have := hwt s0.data.toList.length (by simp [DataW.weights])
        simp only [reachBytes] at this
        show s0.size ≤ _
        have e : s0.data.toList.length = s0.size := Array.length_toList
        omega
      · simp at h
    | unit =>
      obtain ⟨fs, hu, hb⟩ := tyB_fld hty rfl
      obtain ⟨i, z, hi, hsz, _⟩ := tyB_info hty
      rw [hu] at h
      have hst : ∃ ys, cs.length = P.cellsOf t ∧ (fs.toList.mapM fun f => DataW.trod enc P w 0 spare held fuel f.type ((cs.drop f.offset).take (P.cellsOf f.type))) = some ys ∧ y.1 = .agg (ys.map (·.1)) := by
        split at h
        all_goals first
          | (exfalso; simp_all; done)
          | skip
        rename_i fs' e
        simp only [Option.some.injEq, TypeDesc.struct.injEq] at e
        subst e
        split at h
        · rename_i hl
          simp only [Option.map_eq_some_iff] at h
          obtain ⟨ys, hys, rfl⟩ := h
          exact ⟨ys, hl, hys, rfl⟩
        · simp at h
      obtain ⟨ys, hl, hys, hagg⟩ := hst
      obtain ⟨x, hx, hw⟩ := trod_fields hE (w := w) (g := fun t cs => DataW.trod enc P w 0 spare held fuel t cs) (ok := fun t y => ∀ n, n ∈ y.1.weights P t → n ≤ reachBytes) (fun h1 h2 h3 => ih h1 h2 h3) hb hys (by
        intro i f y' h1 h2 n hn
        refine hwt n ?_
        rw [hagg]
        simp only [DataW.weights, hu]
        exact weightsEach_get i (t := f.type) (d := y'.1) (by rw [List.getElem?_map, h1]; rfl) (by rw [List.getElem?_map, h2]; rfl) n hn)
      rw [cellsOf_eq hi, hsz] at hl
      rw [List.drop_zero, ← hl, List.take_length] at hx
      exact ⟨x, hx, hw⟩
    | pair a b =>
      obtain ⟨fs, hu, hb⟩ := tyB_fld hty rfl
      obtain ⟨i, z, hi, hsz, _⟩ := tyB_info hty
      rw [hu] at h
      have hst : ∃ ys, cs.length = P.cellsOf t ∧ (fs.toList.mapM fun f => DataW.trod enc P w 0 spare held fuel f.type ((cs.drop f.offset).take (P.cellsOf f.type))) = some ys ∧ y.1 = .agg (ys.map (·.1)) := by
        split at h
        all_goals first
          | (exfalso; simp_all; done)
          | skip
        rename_i fs' e
        simp only [Option.some.injEq, TypeDesc.struct.injEq] at e
        subst e
        split at h
        · rename_i hl
          simp only [Option.map_eq_some_iff] at h
          obtain ⟨ys, hys, rfl⟩ := h
          exact ⟨ys, hl, hys, rfl⟩
        · simp at h
      obtain ⟨ys, hl, hys, hagg⟩ := hst
      obtain ⟨x, hx, hw⟩ := trod_fields hE (w := w) (g := fun t cs => DataW.trod enc P w 0 spare held fuel t cs) (ok := fun t y => ∀ n, n ∈ y.1.weights P t → n ≤ reachBytes) (fun h1 h2 h3 => ih h1 h2 h3) hb hys (by
        intro i f y' h1 h2 n hn
        refine hwt n ?_
        rw [hagg]
        simp only [DataW.weights, hu]
        exact weightsEach_get i (t := f.type) (d := y'.1) (by rw [List.getElem?_map, h1]; rfl) (by rw [List.getElem?_map, h2]; rfl) n hn)
      rw [cellsOf_eq hi, hsz] at hl
      rw [List.drop_zero, ← hl, List.take_length] at hx
      exact ⟨x, hx, hw⟩
    | sl e =>
      obtain ⟨et, j, hu, he, hne, hj, hjs, hjb⟩ := sl_info hE hs
      have hcell : P.cellsOf et = e.size := by rw [cellsOf_eq hj, hjs]
      rw [hu] at h
      have hcs : cs = [.slice none 0 0] ∨ ∃ a len cap, cs = [.slice (some a) len cap] ∧ len ≤ cap ∧ cap ≤ maxLen ∧ len * bytesSh e ≤ 140737488351232 ∧ ∀ i, i < len → ∃ c y, w.cells? 0 (a.add (i * e.size)) e.size = some c ∧ DataW.trod enc P w 0 spare held fuel et c = some y ∧ ∀ n, n ∈ y.1.weights P et → n ≤ reachBytes := by
        split at h
        all_goals first
          | (exfalso; simp_all; done)
          | skip
        · exact .inl rfl
        · rename_i et' a len cap e1
          simp only [Option.some.injEq, TypeDesc.slice.injEq] at e1
          subst e1
          refine .inr ⟨a, len, cap, rfl, ?_⟩
          simp only at h
          split at h
          · rename_i hc
            simp only [Option.bind_eq_some_iff] at h
            obtain ⟨elems, hel, h⟩ := h
            obtain ⟨hlen, hget⟩ := mapM_range_get hel
            simp only [Option.map_eq_some_iff] at h
            obtain ⟨rest, _, rfl⟩ := h
            have hb1 := hB t e hs
            have hb2 : P.bytesOf et = E.bytes t := by simp only [Program.bytesOf, hj, Option.map_some, Option.getD_some]; assumption
            have hw0 := hwt ((elems.length + rest.length) * P.bytesOf et) (by simp [DataW.weights, hu])
            refine ⟨hc.2.1, hc.2.2, ?_, fun i hi => ?_⟩
            · rw [hb2] at hw0
              have h1 : len * bytesSh e ≤ len * E.bytes t := Nat.mul_le_mul_left _ hb1
              have h2 : len * E.bytes t ≤ (elems.length + rest.length) * E.bytes t := Nat.mul_le_mul_right _ (by omega)
              simp only [reachBytes] at hw0
              omega
            obtain ⟨b, e1, e2⟩ := hget i hi
            rw [hcell] at e1
            simp only [Option.bind_eq_some_iff] at e1
            obtain ⟨c, hc1, hc2⟩ := e1
            refine ⟨c, b, hc1, hc2, fun n hn => hwt n ?_⟩
            simp only [DataW.weights, hu, List.mem_cons, List.mem_append]
            refine .inr (.inl (weightsAll_get (d := b.1) ?_ n hn))
            exact List.mem_map.2 ⟨b, List.mem_of_getElem? e2, rfl⟩
          · simp at h
      rcases hcs with rfl | ⟨a, len, cap, rfl, h1, h2, hsz, hget⟩
      · exact ⟨[], .inl ⟨rfl, none, 0, rfl⟩, by simp, by simp [maxLen], fun y hy => by simp at hy⟩
      · by_cases h0 : len = 0
        · subst h0
          exact ⟨[], .inl ⟨rfl, some a, cap, rfl⟩, by simp, by simp [maxLen], fun y hy => by simp at hy⟩
        · obtain ⟨c0, y0, hc0, _, _⟩ := hget 0 (by omega)
          have ha0 : a.add (0 * e.size) = a := by rw [Nat.zero_mul]; unfold Addr.add; simp
          rw [ha0] at hc0
          obtain ⟨arr, el, fr, hsp, hh, _⟩ := (cells_at hc0).2 hne
          have ha : ∀ n, a.add n = ⟨a.block, a.off + n, none⟩ := by
            intro n
            cases a with | mk b o s => simp only at hsp; subst hsp; exact addr_add b o n
          obtain ⟨l, l1, l2, l3⟩ := segBuild (Q := DR (fun b => b < w.heap.size) w.heap e) (W := WfD e) (cs := arr.toList) (off := a.off) (z := e.size) len 0 (fun i _ hi => by
            obtain ⟨c, y, hc, hy, hyw⟩ := hget i (by omega)
            obtain ⟨x, hx, hwx⟩ := ih he hy hyw
            rw [ha] at hc
            obtain ⟨hcl, hca⟩ := cells_at hc
            obtain ⟨arr', el', fr', _, hh', r, hr⟩ := hca hne
            simp only at hh' hr
            rw [hh] at hh'
            cases hh'
            exact ⟨c, r, x, hr, hcl, hx, hwx⟩)
          refine ⟨l, .inr ⟨a.block, a.off, cap, arr, el, fr, ?_, by omega, (Array.getElem?_eq_some_iff.1 hh).1, hh, by simpa using l2⟩, by rw [l1]; exact hsz, by simp only [l1]; omega, l3⟩
          rw [l1]
          congr 3
          cases a with | mk b o s => simp only at hsp; subst hsp; rfl

end Go.Proofs.Ytgebhckfdcajoaa.Ev

/- Arguments of a row as values of the evaluator. -/
namespace Go.Proofs.Ytgebhckfdcajoaa.Ev
open Go
set_option linter.unusedSimpArgs false
set_option linter.unusedVariables false

theorem arg_SV {P : Program} {E : Env} (hE : EnvOk P E) (hB : EnvB E) {H : Type} {enc : TypeId × Value → H} {w : World} {spare : Nat → Bool} {held : Bool} {r : Reach} {base : Nat} {t : TypeId} {s : Sh} {v : Value} {d : DataW H} {ps : List MemPlace} (hs : E.sh t = some s)
    (hok : Value.okWide P w r base t v) (h : DataW.Trod enc P w 0 spare held t v d ps) (hw : ∀ n, n ∈ d.weights P t → n ≤ reachBytes) : ∃ x : s.den, SV (Cx.bare (fun b => b < w.heap.size) w.heap) (.d s x) K00 v ∧ WfD s x := by
  obtain ⟨fuel, hf⟩ := h
  obtain ⟨x, hd, hx⟩ := trod_DR hE hB fuel hs hf hw
  refine ⟨x, ?_, hx⟩
  have hty := hE.sh _ _ hs
  have one : v.oneCell' = true → s.isAgg = false → SV (Cx.bare (fun b => b < w.heap.size) w.heap) (.d s x) K00 v := by
    intro h1 h2
    rw [SV_VV (by intro y e; cases e), VV_iff (by intro e; cases e)]
    show (if s.isAgg then _ else _)
    rw [h2]
    rw [cells_one h1] at hd
    exact hd
  have agg : s.isAgg = true → SV (Cx.bare (fun b => b < w.heap.size) w.heap) (.d s x) K00 v := by
    intro h2
    obtain ⟨fs, hu, _⟩ := tyB_fld hty h2
    unfold Value.okWide at hok
    rw [hu] at hok
    obtain ⟨cs, rfl, _⟩ := hok
    rw [SV_VV (by intro y e; cases e), VV_iff (by intro e; cases e)]
    show (if s.isAgg then _ else _)
    rw [h2]
    exact ⟨cs, rfl, hd⟩
  cases s with
  | int k => obtain ⟨n, rfl⟩ := WideShapes.okWide_int ((tyB_scalar hty).1 k rfl) hok; exact one rfl rfl
  | bool => obtain ⟨n, rfl⟩ := WideShapes.okWide_bool ((tyB_scalar hty).2.2 rfl) hok; exact one rfl rfl
  | str => obtain ⟨n, rfl⟩ := WideShapes.okWide_string ((tyB_scalar hty).2.1 rfl) hok; exact one rfl rfl
  | unit => exact agg rfl
  | pair a b => exact agg rfl
  | sl e =>
    obtain ⟨et, j, hu, _⟩ := sl_info hE hs
    obtain ⟨a, len, cap, rfl⟩ := WideShapes.okWide_slice hu hok
    exact one rfl rfl

end Go.Proofs.Ytgebhckfdcajoaa.Ev

/- A law's call. -/
namespace Go.Proofs.Ytgebhckfdcajoaa.Ev
open Go
set_option linter.unusedSimpArgs false
set_option linter.unusedVariables false

def truePk : Pk := ⟨.bool, .fz, true⟩

/-- A law that returns true, whatever the data. -/
theorem law_calls {P : Program} {f : Nat} {as : List AV} (h : PureC P false f as truePk) {W : World} {vals : List Value} (hv : ArgsR (Cx.bare (fun b => b < W.heap.size) W.heap) K00 as vals) :
    Calls P f vals.toArray W fun e W' => e = .returned (.bool true) ∧ RowKit.Below W.heap.size W W' := by
  refine Calls.mono' (h.run W (fun b => b < W.heap.size) vals (fun _ => id) hv) ?_
  rintro e w' ⟨v, R', rfl, hr, hsv⟩
  have : v = .bool true := SV_bool (R := R') (K := K00) hsv
  exact ⟨by rw [this], hr.bel⟩

end Go.Proofs.Ytgebhckfdcajoaa.Ev

/- Small words for proofs of functions: tables, loops told by what they turn. -/
namespace Go.Proofs.Ytgebhckfdcajoaa.Ev
open Go
set_option linter.unusedSimpArgs false
set_option linter.unusedVariables false

def nth {α : Type} : List α → Nat → α → α
  | [], _, d => d
  | a :: _, 0, _ => a
  | _ :: r, n + 1, d => nth r n d

def lookN (n : Nat) : List (Nat × List Nat) → List Nat
  | [] => []
  | (k, l) :: r => cond (Nat.beq n k) l (lookN n r)

/-- A slot's value or box put into a state. -/
def Frm.upd : Frm → Nat → Bool → AV → Frm
  | [], _, _, _ => []
  | s :: r, 0, true, v => ⟨s.v, v, s.fv, s.fb⟩ :: r
  | s :: r, 0, false, v => ⟨v, s.b, s.fv, s.fb⟩ :: r
  | s :: r, n + 1, bx, v => s :: Frm.upd r n bx v

def St.upd : St → Nat → Nat → Bool → AV → St
  | [], _, _, _, _ => []
  | f :: r, 0, n, bx, v => Frm.upd f n bx v :: r
  | f :: r, k + 1, n, bx, v => f :: St.upd r k n bx v

structure Up where
  k : Nat
  s : Nat
  bx : Bool
  v : AV

def St.ups (st : St) : List Up → St
  | [] => st
  | u :: r => St.ups (st.upd u.k u.s u.bx u.v) r

/-- Two states laid open side by side. -/
structure SameS (x y : St) : Prop where
  eq : x = y

theorem st_eq {a b : St} (h : a.forceK fun x => b.forceK fun y => SameS x y) : a = b := by
  rw [St.forceK_eq, St.forceK_eq] at h
  exact h.eq

/-- A loop told by what its rounds turn, of the outer frames too. -/
theorem loop_upt {X : Type} (U : X → List Up) (T : X → St) (μ : X → Nat) (I : X → Prop) {E : Env} {C : Orc} {keep : Nat → List Nat} {b : Code} {k : Ex → St → Prop} {s0 : St} (x0 : X) (h0 : s0 = (s0.ups (U x0)).tl (T x0)) (i0 : I x0)
    (h : ∀ x, I x → ((s0.ups (U x)).tl (T x)).forceK fun s => evCode E C keep b s (fun e s' => match e with | .normal => ∃ y, s'.gc (keep (loopKey b)) = (s0.ups (U y)).tl (T y) ∧ I y ∧ μ y < μ x | e => k e s')) :
    LoopP (fun s k' => evCode E C keep b s fun e s' => match e with | .normal => k' .normal (s'.gc (keep (loopKey b))) | e => k' e s') s0 k := by
  refine evLoop_of (fun x => (s0.ups (U x)).tl (T x)) μ I x0 h0 i0 ?_
  intro x hx
  have := h x hx
  rwa [St.forceK_eq] at this

/-- A loop told by what its rounds turn: 'U' the slots' values at the head. -/
theorem loop_ups {X : Type} (U : X → List Up) (μ : X → Nat) (I : X → Prop) {E : Env} {C : Orc} {keep : Nat → List Nat} {b : Code} {k : Ex → St → Prop} {s0 : St} (x0 : X) (h0 : s0 = s0.ups (U x0)) (i0 : I x0)
    (h : ∀ x, I x → (s0.ups (U x)).forceK fun s => evCode E C keep b s (fun e s' => match e with | .normal => ∃ y, s'.gc (keep (loopKey b)) = s0.ups (U y) ∧ I y ∧ μ y < μ x | e => k e s')) :
    LoopP (fun s k' => evCode E C keep b s fun e s' => match e with | .normal => k' .normal (s'.gc (keep (loopKey b))) | e => k' e s') s0 k := by
  refine evLoop_of (fun x => s0.ups (U x)) μ I x0 h0 i0 ?_
  intro x hx
  have := h x hx
  rwa [St.forceK_eq] at this

theorem cond_intro {b : Bool} {p q : Prop} (h1 : b = true → p) (h2 : b = false → q) : cond b p q := by
  cases b
  · exact h2 rfl
  · exact h1 rfl

/-! ### Owned slices at a place of a state that is not known whole -/

/-- The place 'q' of the states 'P l' owns the slice 'l'. -/
structure Owns (q : Pl) (e : Sh) (o : Ow) (P : List e.den → St) : Prop where
  get : ∀ l K, K (.own e o l) → GetP (P l) q K
  look : ∀ l i K, i < l.length → K (unpack e o (l.getD i e.dflt)) → LookP (P l) (q.child (.ix i e.size)) K
  put : ∀ l i u w K, i < l.length → u.pack = some ⟨e, o, w⟩ → u.size = e.size → K (P (l.set i w)) → PutP (P l) (q.child (.ix i e.size)) u K
  bad : ∀ i z, (q.child (.ix i z)).badPlace = false
  pos : ∀ l, 0 < (P l).length

theorem Owns.ok {q : Pl} {e : Sh} {o : Ow} {P : List e.den → St} (O : Owns q e o P) {n m i z : Nat} {u : AV} (hu : u.isBad = false) (hz : (u.size == 0) = false) :
    ((((q.lift n).lift m).child (.ix i z)).badPlace || !(((q.lift n).lift m).child (.ix i z)).mem || u.isBad || u.size == 0) = false := by
  have : (((q.lift n).lift m).child (.ix i z)).badPlace = false := O.bad i z
  rw [this, hu, hz]; rfl

theorem cond_f {b : Bool} {p q : Prop} (h : b = false) (hq : q) : cond b p q := by rw [h]; exact hq
theorem cond_t {b : Bool} {p q : Prop} (h : b = true) (hp : p) : cond b p q := by rw [h]; exact hp

theorem PartP_append : ∀ {p p' : List Stp} {a : AV} {K : AV → Prop}, PartP (p ++ p') a K ↔ PartP p a fun b => PartP p' b K := by
  intro p
  induction p with
  | nil => intro p' a K; rfl
  | cons i p ih =>
    intro p' a K
    simp only [List.cons_append, PartP]
    rw [stepP_iff, stepP_iff (K := fun b => PartP p b _)]
    exact exists_congr fun b => and_congr_right fun _ => ih

theorem GetP_child {st : St} {q : Pl} {i : Stp} {K : AV → Prop} : GetP st (q.child i) K ↔ GetP st q fun v => v.stepP i K := by
  simp only [GetP, Pl.child, List.reverse_cons, St.getK_eq]
  cases st.get q.r.k q.r.s with
  | none => exact Iff.rfl
  | some s => simp only [PartP_append]; exact Iff.rfl

/-! ### Small facts -/

abbrev tI : Sh := .int .i64
abbrev tIS : Sh := .sl tI
abbrev tISS : Sh := .sl tIS

theorem fin1 {s : Sh} {o : Ow} {x y : s.den} (h : x = y) : (⟨s, o, x⟩ : Pk) = ⟨s, o, y⟩ := by rw [h]

theorem wrap_in {n : Int} (h1 : -9223372036854775808 ≤ n) (h2 : n ≤ 9223372036854775807) : IntKind.i64.wrap n = n := by
  simp only [IntKind.wrap, IntKind.bits, IntKind.signed]
  have : ((2 : Int) ^ 64) = 18446744073709551616 := by decide
  have h63 : ((2 : Int) ^ (64 - 1)) = 9223372036854775808 := by decide
  simp only [this, h63]
  simp
  split <;> omega

/-- How long a list of data may be. -/
abbrev Short (l : Nat) : Prop := l ≤ 4611686018427387904

theorem wrap_succ {n : Nat} {m : Nat} (h : n < m) (hm : Short m) : IntKind.i64.wrap ((n : Int) + 1) = ((n + 1 : Nat) : Int) := by
  unfold Short at hm
  rw [wrap_in (by omega) (by omega)]; simp

end Go.Proofs.Ytgebhckfdcajoaa.Ev

/- Owned slices at places of states that are not known whole: inner frames, elements. -/
namespace Go.Proofs.Ytgebhckfdcajoaa.Ev
open Go
set_option linter.unusedSimpArgs false
set_option linter.unusedVariables false

/-- The same place, as a called function sees it. -/
theorem Owns.lift {q : Pl} {e : Sh} {o : Ow} {P : List e.den → St} (O : Owns q e o P) (f : Frm) : Owns (q.lift 1) e o (fun l => f :: P l) where
  get := fun l K h => O.get l K h
  look := fun l i K hi h => O.look l i K hi h
  put := fun l i u w K hi hp hs h => O.put l i u w (fun s => K (f :: s)) hi hp hs h
  bad := O.bad
  pos := fun l => by simp

theorem PartP_det {p : List Stp} {a b : AV} {K : AV → Prop} (h : PartP p a fun u => u = b) (hk : PartP p a K) : K b := by
  obtain ⟨c, h1, h2⟩ := PartP_iff.1 hk
  have key : ∀ {p : List Stp} {a b c : AV}, PartP p a (fun u => u = b) → PartP p a (fun u => u = c) → b = c := by
    intro p
    induction p with
    | nil => intro a b c h g; exact h.symm.trans g
    | cons i p ih =>
      intro a b c h g
      simp only [PartP] at h g
      obtain ⟨x, hx, h⟩ := stepP_iff.1 h
      obtain ⟨y, hy, g⟩ := stepP_iff.1 g
      have sd : ∀ {a : AV} {i : Stp} {x y : AV}, a.stepP i (fun u => u = x) → a.stepP i (fun u => u = y) → x = y := by
        intro a i x y h g
        cases i with
        | l =>
          cases a with
          | pair u v => exact h.symm.trans g
          | d s z => cases s with
            | pair s t => exact h.symm.trans g
            | _ => exact h.elim
          | _ => exact h.elim
        | r n =>
          cases a with
          | pair u v => simp only [AV.stepP] at h g; split at h <;> first | exact h.elim | skip
                        rename_i e; rw [if_pos e] at g; exact h.symm.trans g
          | d s z => cases s with
            | pair s t => simp only [AV.stepP] at h g; split at h <;> first | exact h.elim | skip
                          rename_i e; rw [if_pos e] at g; exact h.symm.trans g
            | _ => exact h.elim
          | _ => exact h.elim
        | ix j z =>
          cases a with
          | own e o l => simp only [AV.stepP] at h g; split at h <;> first | exact h.elim | skip
                         rename_i e; rw [if_pos e] at g; exact h.2.symm.trans g.2
          | d s x => cases s <;> exact h.elim
          | _ => exact h.elim
      have := sd hx hy
      subst this
      exact ih h g
  rw [key h h1]; exact h2

/-- An inner part turned, by turns. -/
theorem UpdP_append {u b b' : AV} {p' : List Stp} (hb : UpdP u p' b fun x => x = b') : ∀ {p : List Stp} {a : AV} {K : AV → Prop}, PartP p a (fun x => x = b) → UpdP b' p a K → UpdP u (p ++ p') a K := by
  intro p
  induction p with
  | nil =>
    intro a K h hk
    have h : a = b := h
    subst h
    simp only [UpdP] at hk
    split at hk
    · exact UpdP_iff.2 ⟨b', hb, hk⟩
    · exact hk.elim
  | cons i p ih =>
    intro a K h hk
    simp only [PartP] at h
    cases i with
    | l =>
      cases a with
      | pair x y => exact ih h hk
      | d s x => cases s with
        | pair s t => exact ih h hk
        | _ => exact h.elim
      | _ => exact h.elim
    | r n =>
      cases a with
      | pair x y =>
        simp only [AV.stepP, UpdP, List.cons_append] at h hk ⊢
        split at h
        · rename_i e; rw [if_pos e] at hk ⊢; exact ih h hk
        · exact h.elim
      | d s x => cases s with
        | pair s t =>
          simp only [AV.stepP, UpdP, List.cons_append] at h hk ⊢
          split at h
          · rename_i e; rw [if_pos e] at hk ⊢; exact ih h hk
          · exact h.elim
        | _ => exact h.elim
      | _ => exact h.elim
    | ix j z =>
      cases a with
      | own e o l =>
        simp only [AV.stepP, UpdP, List.cons_append] at h hk ⊢
        split at h
        · rename_i e; rw [if_pos e] at hk ⊢; exact ⟨hk.1, ih h.2 hk.2⟩
        · exact h.elim
      | d s x => cases s <;> exact h.elim
      | _ => exact h.elim

theorem PutP_child {st : St} {q : Pl} {ps : List Stp} {u b b' : AV} {K : St → Prop} (hg : GetP st q fun v => v = b) (hu : UpdP u ps b fun x => x = b') (hp : PutP st q b' K) : PutP st ⟨q.r, ps.reverse ++ q.p⟩ u K := by
  rw [PutP_iff] at hp ⊢
  obtain ⟨s, hs, w, hw, hk⟩ := hp
  rw [GetP_iff] at hg
  obtain ⟨s', hs', v, hv, rfl⟩ := hg
  rw [hs] at hs'
  cases hs'
  refine ⟨s, hs, w, ?_, hk⟩
  simp only [List.reverse_append, List.reverse_reverse]
  exact UpdP_append hu hv hw

/-- What is owned inside an element: 'ps' the steps to it, 'mk' the element with another such part. -/
structure Inside (e : Sh) (o : Ow) (ps : List Stp) (e' : Sh) (o' : Ow) (mk : List e'.den → e.den) : Prop where
  part : ∀ x, PartP ps (unpack e o (mk x)) fun u => u = .own e' o' x
  upd : ∀ x x', UpdP (.own e' o' x') ps (unpack e o (mk x)) fun u => u.pack = some ⟨e, o, mk x'⟩ ∧ u.size = e.size
  size : 0 < e.size

theorem Owns.inside {q : Pl} {e : Sh} {o : Ow} {P : List e.den → St} (O : Owns q e o P) {ps : List Stp} {e' : Sh} {o' : Ow} {mk : List e'.den → e.den} (M : Inside e o ps e' o' mk) {l : List e.den} {i : Nat} (hi : i < l.length) :
    Owns ⟨q.r, ps.reverse ++ .ix i e.size :: q.p⟩ e' o' (fun x => P (l.set i (mk x))) := by
  have hlen : ∀ x, i < (l.set i (mk x)).length := fun x => by simpa using hi
  have hat : ∀ x, (l.set i (mk x)).getD i e.dflt = mk x := fun x => by rw [List.getD_eq_getElem?_getD, List.getElem?_set_self hi]; rfl
  -- the element as it stands
  have hget : ∀ x, GetP (P (l.set i (mk x))) (q.child (.ix i e.size)) fun v => v = unpack e o (mk x) := by
    intro x
    rw [GetP_child]
    refine O.get _ _ ?_
    simp only [AV.stepP, if_true]
    exact ⟨hlen x, by rw [hat]⟩
  have hlook : ∀ x, LookP (P (l.set i (mk x))) (q.child (.ix i e.size)) fun v => v = unpack e o (mk x) := fun x => O.look _ _ _ (hlen x) (by rw [hat])
  have down : ∀ x, ∃ s, (P (l.set i (mk x))).get q.r.k q.r.s = some s ∧ PartP ((ps.reverse ++ .ix i e.size :: q.p).reverse) (s.at q.r.bx) (fun u => u = .own e' o' x) ∧ ((unpack e o (mk x)).hasOwn && !(s.flag q.r.bx)) = false := by
    intro x
    obtain ⟨s, hs, v, hv, h1, h2, rfl⟩ := LookP_iff.1 (hlook x)
    refine ⟨s, hs, ?_, h2⟩
    simp only [List.reverse_append, List.reverse_reverse]
    rw [PartP_append]
    exact PartP_iff.2 ⟨_, hv, M.part x⟩
  have own : ∀ x, (unpack e o (mk x)).hasOwn = true := by
    intro x
    have key : ∀ {p : List Stp} {a : AV}, PartP p a (fun u => u = .own e' o' x) → a.hasOwn = true := by
      intro p
      induction p with
      | nil => intro a h; have h : a = _ := h; subst h; rfl
      | cons j p ih =>
        intro a h
        simp only [PartP] at h
        cases j with
        | l =>
          cases a with
          | pair u v => simp only [AV.hasOwn, ih h, Bool.true_or]
          | d s z => cases s with
            | pair s t =>
              have := ih h
              simp [AV.hasOwn] at this
            | _ => exact h.elim
          | _ => exact h.elim
        | r n =>
          cases a with
          | pair u v =>
            simp only [AV.stepP] at h
            split at h
            · simp only [AV.hasOwn, ih h, Bool.or_true]
            · exact h.elim
          | d s z => cases s with
            | pair s t =>
              simp only [AV.stepP] at h
              split at h
              · have := ih h; simp [AV.hasOwn] at this
              · exact h.elim
            | _ => exact h.elim
          | _ => exact h.elim
        | ix j z =>
          cases a with
          | own e o l => rfl
          | d s z => cases s <;> exact h.elim
          | _ => exact h.elim
    exact key (M.part x)
  refine ⟨?_, ?_, ?_, ?_, fun _ => O.pos _⟩
  · intro x K hk
    obtain ⟨s, hs, hp, _⟩ := down x
    exact GetP_iff.2 ⟨s, hs, _, hp, hk⟩
  · intro x j K hj hk
    obtain ⟨s, hs, hp, hf⟩ := down x
    have hfl : s.flag q.r.bx = true := by rw [own x] at hf; simpa using hf
    refine LookP_iff.2 ⟨s, hs, unpack e' o' (x.getD j e'.dflt), ?_, unpack_good _ _ _, by rw [show s.flag (Pl.child ⟨q.r, ps.reverse ++ .ix i e.size :: q.p⟩ (.ix j e'.size)).r.bx = true from hfl]; simp, hk⟩
    show PartP ((Pl.child ⟨q.r, ps.reverse ++ .ix i e.size :: q.p⟩ (.ix j e'.size)).p.reverse) _ _
    simp only [Pl.child, List.reverse_cons]
    rw [PartP_append]
    refine PartP_iff.2 ⟨_, hp, ?_⟩
    simp only [PartP, AV.stepP, if_true]
    exact ⟨hj, trivial⟩
  · intro x j u w K hj hp hs hk
    obtain ⟨b', hb', hb1, hb2⟩ := UpdP_iff.1 (M.upd x (x.set j w))
    have h1 : PutP (P (l.set i (mk x))) (q.child (.ix i e.size)) b' K := by
      refine O.put _ _ _ (mk (x.set j w)) _ (hlen x) hb1 hb2 ?_
      rw [List.set_set]; exact hk
    have h2 := PutP_child (ps := ps) (u := .own e' o' (x.set j w)) (hget x) hb' h1
    have h3 : GetP (P (l.set i (mk x))) ⟨(q.child (.ix i e.size)).r, ps.reverse ++ (q.child (.ix i e.size)).p⟩ fun v => v = .own e' o' x := by
      obtain ⟨s, hs, hp, _⟩ := down x
      exact GetP_iff.2 ⟨s, hs, _, hp, rfl⟩
    have h4 : UpdP u [.ix j e'.size] (.own e' o' x) fun y => y = .own e' o' (x.set j w) := by
      simp only [UpdP, if_true]
      refine ⟨hj, ?_⟩
      rw [if_pos (by rw [hs, unpack_size])]
      simp only [putElemP, hp]
      rfl
    exact PutP_child (ps := [.ix j e'.size]) h3 h4 h2
  · intro j z
    have this : (if q.r.bx = true then (Stp.ix i e.size :: q.p).getLast? != some (Stp.r 0) else (Stp.ix i e.size :: q.p).isEmpty) = false := O.bad i e.size
    show (if q.r.bx = true then (Stp.ix j z :: (ps.reverse ++ Stp.ix i e.size :: q.p)).getLast? != some (Stp.r 0) else (Stp.ix j z :: (ps.reverse ++ Stp.ix i e.size :: q.p)).isEmpty) = false
    by_cases hbx : q.r.bx = true
    · rw [if_pos hbx] at this ⊢
      have e1 : (Stp.ix j z :: (ps.reverse ++ Stp.ix i e.size :: q.p)).getLast? = (Stp.ix i e.size :: q.p).getLast? := by
        rw [show Stp.ix j z :: (ps.reverse ++ Stp.ix i e.size :: q.p) = (Stp.ix j z :: ps.reverse) ++ (Stp.ix i e.size :: q.p) from rfl]
        rw [List.getLast?_append]
        simp [List.getLast?_cons]
      rw [e1]; exact this
    · rw [if_neg hbx]; rfl

theorem inside_sl (e : Sh) (o : Ow) : Inside (.sl e) (.ow o) [] e o (fun x => x) where
  part := fun x => rfl
  upd := fun x x' => ⟨rfl, rfl⟩
  size := by show 0 < 1; decide


/-! ### The box of a slot of the running frame -/

theorem upd_get {st : St} {s : Nat} {sl : Slot} (hg : st.get 0 s = some sl) (v : AV) : (st.upd 0 s true v).get 0 s = some ⟨sl.v, v, sl.fv, sl.fb⟩ := by
  have key : ∀ {f : Frm} {s : Nat} {sl : Slot}, f[s]? = some sl → (Frm.upd f s true v)[s]? = some ⟨sl.v, v, sl.fv, sl.fb⟩ := by
    intro f
    induction f with
    | nil => intro s sl h; simp at h
    | cons x f ih =>
      intro s sl h
      cases s with
      | zero => simp at h; subst h; rfl
      | succ s => simpa [Frm.upd] using ih (by simpa using h)
  cases st with
  | nil => simp [St.get] at hg
  | cons f o => simpa [St.get, St.upd] using key (by simpa [St.get] using hg)

theorem upd_set {st : St} {s : Nat} {sl : Slot} (hg : st.get 0 s = some sl) (v w : AV) : (st.upd 0 s true v).set 0 s (Slot.put ⟨sl.v, v, sl.fv, sl.fb⟩ true w) = st.upd 0 s true w := by
  have key : ∀ {f : Frm} {s : Nat} {sl : Slot}, f[s]? = some sl → (Frm.upd f s true v).set s (Slot.put ⟨sl.v, v, sl.fv, sl.fb⟩ true w) = Frm.upd f s true w := by
    intro f
    induction f with
    | nil => intro s sl h; simp at h
    | cons x f ih =>
      intro s sl h
      cases s with
      | zero => simp at h; subst h; rfl
      | succ s => simpa [Frm.upd] using ih (by simpa using h)
  cases st with
  | nil => simp [St.get] at hg
  | cons f o =>
    have := key (f := f) (s := s) (by simpa [St.get] using hg)
    show (Frm.upd f s true v :: o).modify 0 _ = _
    simp only [List.modify_zero_cons]
    exact congrArg (· :: o) this

theorem upd_length (st : St) (s : Nat) (v : AV) : (st.upd 0 s true v).length = st.length := by
  cases st <;> rfl

/-- An owned part of the box of a slot. -/
theorem owns_box {st : St} {s : Nat} {sl : Slot} (hg : st.get 0 s = some sl) (hf : sl.fb = true) {e : Sh} {o : Ow} {mk : List e.den → AV} {ps : List Stp} (hl : (ps.reverse.getLast? != some (.r 0)) = false)
    (part : ∀ x, PartP ps (mk x) fun u => u = .own e o x) (upd : ∀ x x', UpdP (.own e o x') ps (mk x) fun u => u = mk x') :
    Owns ⟨⟨0, s, true⟩, ps.reverse⟩ e o (fun x => st.upd 0 s true (mk x)) := by
  refine ⟨?_, ?_, ?_, ?_, ?_⟩
  · intro x K hk
    refine GetP_iff.2 ⟨_, upd_get hg _, _, ?_, hk⟩
    simp only [List.reverse_reverse, Slot.at, if_true]
    exact part x
  · intro x j K hj hk
    refine LookP_iff.2 ⟨_, upd_get hg _, unpack e o (x.getD j e.dflt), ?_, unpack_good _ _ _, ?_, hk⟩
    · simp only [Pl.child, List.reverse_cons, List.reverse_reverse, Slot.at, if_true]
      rw [PartP_append]
      refine PartP_iff.2 ⟨_, part x, ?_⟩
      simp only [PartP, AV.stepP, if_true]
      exact ⟨hj, trivial⟩
    · show (_ && !sl.fb) = false
      rw [hf]; simp
  · intro x j u w K hj hp hs hk
    have h1 : PutP (st.upd 0 s true (mk x)) ⟨⟨0, s, true⟩, ps.reverse⟩ (.own e o (x.set j w)) K := by
      refine PutP_iff.2 ⟨_, upd_get hg _, mk (x.set j w), ?_, ?_⟩
      · simp only [List.reverse_reverse, Slot.at, if_true]; exact upd _ _
      · have := upd_set hg (mk x) (mk (x.set j w))
        rw [this]; exact hk
    have h2 : GetP (st.upd 0 s true (mk x)) ⟨⟨0, s, true⟩, ps.reverse⟩ fun v => v = .own e o x := by
      refine GetP_iff.2 ⟨_, upd_get hg _, _, ?_, rfl⟩
      simp only [List.reverse_reverse, Slot.at, if_true]
      exact part x
    have h3 : UpdP u [.ix j e.size] (.own e o x) fun y => y = .own e o (x.set j w) := by
      simp only [UpdP, if_true]
      refine ⟨hj, ?_⟩
      rw [if_pos (by rw [hs, unpack_size])]
      simp only [putElemP, hp]
      rfl
    exact PutP_child (ps := [.ix j e.size]) h2 h3 h1
  · intro j z
    show ((Stp.ix j z :: ps.reverse).getLast? != some (.r 0)) = false
    cases h : ps.reverse with
    | nil => rw [h] at hl; simp at hl
    | cons a r => rw [h] at hl; rw [List.getLast?_cons_cons]; exact hl
  · intro x
    rw [upd_length]
    exact Nat.pos_of_ne_zero fun e => by
      have := St.get_lt hg
      omega


theorem upd_self {st : St} {s : Nat} {sl : Slot} (hg : st.get 0 s = some sl) : st.upd 0 s true sl.b = st := by
  have key : ∀ {f : Frm} {s : Nat} {sl : Slot}, f[s]? = some sl → Frm.upd f s true sl.b = f := by
    intro f
    induction f with
    | nil => intro s sl h; simp at h
    | cons x f ih =>
      intro s sl h
      cases s with
      | zero => simp at h; subst h; rfl
      | succ s =>
        have := ih (s := s) (by simpa using h)
        simp only [Frm.upd, this]
  cases st with
  | nil => simp [St.get] at hg
  | cons f o =>
    have := key (f := f) (s := s) (by simpa [St.get] using hg)
    simp only [St.upd, this]


/-! ### A slot's own value -/

theorem updV_get {st : St} {s : Nat} {sl : Slot} (hg : st.get 0 s = some sl) (v : AV) : (st.upd 0 s false v).get 0 s = some ⟨v, sl.b, sl.fv, sl.fb⟩ := by
  have key : ∀ {f : Frm} {s : Nat} {sl : Slot}, f[s]? = some sl → (Frm.upd f s false v)[s]? = some ⟨v, sl.b, sl.fv, sl.fb⟩ := by
    intro f
    induction f with
    | nil => intro s sl h; simp at h
    | cons x f ih =>
      intro s sl h
      cases s with
      | zero => simp at h; subst h; rfl
      | succ s => simpa [Frm.upd] using ih (by simpa using h)
  cases st with
  | nil => simp [St.get] at hg
  | cons f o => simpa [St.get, St.upd] using key (by simpa [St.get] using hg)

theorem updV_set {st : St} {s : Nat} {sl : Slot} (hg : st.get 0 s = some sl) (v w : AV) : (st.upd 0 s false v).set 0 s (Slot.put ⟨v, sl.b, sl.fv, sl.fb⟩ false w) = st.upd 0 s false w := by
  have key : ∀ {f : Frm} {s : Nat} {sl : Slot}, f[s]? = some sl → (Frm.upd f s false v).set s (Slot.put ⟨v, sl.b, sl.fv, sl.fb⟩ false w) = Frm.upd f s false w := by
    intro f
    induction f with
    | nil => intro s sl h; simp at h
    | cons x f ih =>
      intro s sl h
      cases s with
      | zero => simp at h; subst h; rfl
      | succ s => simpa [Frm.upd] using ih (by simpa using h)
  cases st with
  | nil => simp [St.get] at hg
  | cons f o =>
    have := key (f := f) (s := s) (by simpa [St.get] using hg)
    show (Frm.upd f s false v :: o).modify 0 _ = _
    simp only [List.modify_zero_cons]
    exact congrArg (· :: o) this

theorem updV_self {st : St} {s : Nat} {sl : Slot} (hg : st.get 0 s = some sl) : st.upd 0 s false sl.v = st := by
  have key : ∀ {f : Frm} {s : Nat} {sl : Slot}, f[s]? = some sl → Frm.upd f s false sl.v = f := by
    intro f
    induction f with
    | nil => intro s sl h; simp at h
    | cons x f ih =>
      intro s sl h
      cases s with
      | zero => simp at h; subst h; rfl
      | succ s =>
        have := ih (s := s) (by simpa using h)
        simp only [Frm.upd, this]
  cases st with
  | nil => simp [St.get] at hg
  | cons f o =>
    have := key (f := f) (s := s) (by simpa [St.get] using hg)
    simp only [St.upd, this]

/-- The slice that a slot's own value is. -/
theorem owns_var {st : St} {s : Nat} {sl : Slot} (hg : st.get 0 s = some sl) (hf : sl.fv = true) (e : Sh) (o : Ow) :
    Owns ⟨⟨0, s, false⟩, []⟩ e o (fun x => st.upd 0 s false (.own e o x)) := by
  refine ⟨?_, ?_, ?_, ?_, ?_⟩
  · intro x K hk
    exact GetP_iff.2 ⟨_, updV_get hg _, _, rfl, hk⟩
  · intro x j K hj hk
    refine LookP_iff.2 ⟨_, updV_get hg _, unpack e o (x.getD j e.dflt), ?_, unpack_good _ _ _, ?_, hk⟩
    · show PartP [.ix j e.size] (.own e o x) _
      simp only [PartP, AV.stepP, if_true]
      exact ⟨hj, trivial⟩
    · show (_ && !sl.fv) = false
      rw [hf]; simp
  · intro x j u w K hj hp hs hk
    refine PutP_iff.2 ⟨_, updV_get hg _, .own e o (x.set j w), ?_, ?_⟩
    · show UpdP u [.ix j e.size] (.own e o x) _
      simp only [UpdP, if_true]
      refine ⟨hj, ?_⟩
      rw [if_pos (by rw [hs, unpack_size])]
      simp only [putElemP, hp]
      rfl
    · have := updV_set hg (.own e o x) (.own e o (x.set j w))
      rw [show (Pl.child ⟨⟨0, s, false⟩, []⟩ (.ix j e.size)).r.bx = false from rfl]
      show K ((st.upd 0 s false (.own e o x)).set 0 s _)
      rw [this]; exact hk
  · intro j z; rfl
  · intro x
    have := St.get_lt hg
    cases st with
    | nil => simp at this
    | cons f r => simp [St.upd]

end Go.Proofs.Ytgebhckfdcajoaa.Ev
