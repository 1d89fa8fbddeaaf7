/- Runs of a sample: the plane at the end, counts, mistakes of rounds. Plain facts. -/
import Derived.Test.YtlndfmmigndgeaaFnV
namespace Go.Proofs.Ytlndfmmigndgeaa.Ev
open Go
set_option linter.unusedVariables false
set_option linter.unusedSimpArgs false
set_option maxRecDepth 100000
set_option exponentiation.threshold 100000

/-! ### Sums -/
def sN (f : Nat → Int) : Nat → Int
  | 0 => 0
  | n + 1 => sN f n + f n
theorem sN_ext {f g : Nat → Int} : ∀ {n : Nat}, (∀ i, i < n → f i = g i) → sN f n = sN g n := by
  intro n
  induction n with
  | zero => intro _; rfl
  | succ n ih => intro h; simp only [sN]; rw [ih fun i hi => h i (by omega), h n (by omega)]
theorem sN_zero : ∀ {n : Nat}, sN (fun _ => 0) n = 0 := by
  intro n
  induction n with
  | zero => rfl
  | succ n ih => simp only [sN]; rw [ih]; rfl
theorem sN_bump {f g : Nat → Int} {t : Nat} {e : Int} : ∀ {n : Nat}, (∀ i, i < n → i ≠ t → f i = g i) → f t = g t + e → sN f n = sN g n + (if t < n then e else 0) := by
  intro n
  induction n with
  | zero => intro _ _; simp [sN]
  | succ n ih =>
    intro h he
    have h1 := ih (fun i hi => h i (by omega)) he
    simp only [sN]
    by_cases ht : t = n
    · subst ht
      rw [if_neg (Nat.lt_irrefl _)] at h1
      rw [h1, he, if_pos (by omega)]; omega
    · rw [h n (by omega) (fun e => ht e.symm), h1]
      by_cases hl : t < n
      · rw [if_pos hl, if_pos (by omega)]; omega
      · rw [if_neg hl, if_neg (by omega)]; omega
theorem sN_bd {f : Nat → Int} {c : Int} : ∀ {n : Nat}, (∀ i, i < n → -c ≤ f i ∧ f i ≤ c) → -(c * n) ≤ sN f n ∧ sN f n ≤ c * n := by
  intro n
  induction n with
  | zero => intro _; simp [sN]
  | succ n ih =>
    intro h
    have h1 := ih fun i hi => h i (by omega)
    have h2 := h n (by omega)
    simp only [sN]
    have e : c * ((n + 1 : Nat) : Int) = c * n + c := by rw [Int.natCast_add, Int.mul_add]; simp
    rw [e]; omega

def sL (f : Int → Int) : List Int → Int
  | [] => 0
  | t :: r => f t + sL f r
theorem sL_snoc (f : Int → Int) (x : Int) : ∀ l, sL f (l ++ [x]) = sL f l + f x := by
  intro l
  induction l with
  | nil => simp [sL]
  | cons y l ih => simp only [List.cons_append, sL, ih]; omega

/-! ### Counts of a trace -/
theorem getD_setI {c : List Int} {t i : Nat} {v : Int} (h : t < c.length) : (c.set t v).getD i 0 = if i = t then v else c.getD i 0 := by
  rw [List.getD_eq_getElem?_getD, List.getElem?_set]
  by_cases e : t = i
  · subst e; simp [h]
  · rw [if_neg e, if_neg (fun x => e x.symm), List.getD_eq_getElem?_getD]

structure CntOk (m : Nat) (tr : List Int) (c : List Int) : Prop where
  len : c.length = m
  lo : ∀ i, i < m → 0 ≤ c.getD i 0
  hi : ∀ i, i < m → c.getD i 0 ≤ tr.length
  sum : ∀ f : Int → Int, sN (fun i => c.getD i 0 * f i) m = sL f tr

theorem cntOk {m : Nat} : ∀ (tr : List Int), tr.length ≤ 1000000 → (∀ t ∈ tr, 0 ≤ t ∧ t < m) → CntOk m tr (cnt m tr tr.length) := by
  have key : ∀ (n : Nat) (tr : List Int), n ≤ tr.length → tr.length ≤ 1000000 → (∀ t ∈ tr, 0 ≤ t ∧ t < m) → CntOk m (tr.take n) (cnt m tr n) := by
    intro n
    induction n with
    | zero =>
      intro tr _ _ _
      have e : cnt m tr 0 = List.replicate m 0 := by simp [cnt]
      have g : ∀ i, (List.replicate m (0 : Int)).getD i 0 = 0 := fun i => by
        rw [List.getD_eq_getElem?_getD, List.getElem?_replicate]; split <;> rfl
      rw [e]
      refine ⟨by simp, fun i _ => by rw [g]; omega, fun i _ => by rw [g]; simp, fun f => ?_⟩
      have : (fun i : Nat => (List.replicate m (0 : Int)).getD i 0 * f i) = fun _ => 0 := by funext i; rw [g]; simp
      rw [this, sN_zero]; rfl
    | succ n ih =>
      intro tr hn hl ht
      have I := ih tr (by omega) hl ht
      have hlt : n < tr.length := by omega
      have hmem := ht _ (getD_mem hlt 0)
      rw [← cnt_succ hlt, take_getD tr hlt 0]
      generalize tr.getD n 0 = t at hmem
      generalize cnt m tr n = c at I
      have htl : t.toNat < c.length := by rw [I.len]; omega
      have hlen : (tr.take n).length = n := by simp; omega
      have h1 := I.lo t.toNat (by omega)
      have h2 := I.hi t.toNat (by omega)
      have hw : IntKind.i64.wrap (c.getD t.toNat 0 + 1) = c.getD t.toNat 0 + 1 := wrap_in (by omega) (by omega)
      have hg : ∀ i, (addAt c t).getD i 0 = if i = t.toNat then c.getD t.toNat 0 + 1 else c.getD i 0 := fun i => by
        unfold addAt; rw [hw, getD_setI htl]
      refine ⟨by unfold addAt; rw [List.length_set]; exact I.len, fun i hi => ?_, fun i hi => ?_, fun f => ?_⟩
      · rw [hg]; split
        · omega
        · exact I.lo i hi
      · rw [hg, List.length_append, hlen]
        show _ ≤ ((n + 1 : Nat) : Int)
        rw [hlen] at h2
        split
        · omega
        · have := I.hi i hi; rw [hlen] at this; omega
      · rw [sL_snoc, ← I.sum f]
        have := sN_bump (f := fun i => (addAt c t).getD i 0 * f i) (g := fun i => c.getD i 0 * f i) (t := t.toNat) (e := f t) (n := m) (fun i _ hne => by show (addAt c t).getD i 0 * f i = _; rw [hg, if_neg hne]) (by
          show (addAt c t).getD t.toNat 0 * f t.toNat = c.getD t.toNat 0 * f t.toNat + f t
          rw [hg, if_pos rfl, Int.add_mul]
          have : ((t.toNat : Nat) : Int) = t := by omega
          rw [this]; omega)
        rw [this, if_pos (by omega)]
  intro tr h1 h2
  have := key tr.length tr (Nat.le_refl _) h1 h2
  rw [List.take_length] at this
  exact this

/-! ### Steps -/
theorem addW_getD : ∀ {ws xs : List Int} {l : Int} {j : Nat}, ws.length = xs.length → j < ws.length → (addW ws xs l).getD j 0 = IntKind.i64.wrap (ws.getD j 0 + IntKind.i64.wrap (l * xs.getD j 0)) := by
  intro ws
  induction ws with
  | nil => intro xs l j _ h; simp at h
  | cons w ws ih =>
    intro xs l j he h
    cases xs with
    | nil => simp at he
    | cons x xs =>
      cases j with
      | zero => simp [addW]
      | succ j =>
        have := ih (xs := xs) (l := l) (j := j) (by simpa using he) (by simpa using h)
        simpa [addW] using this

/-- What a sample's points and labels are worth. -/
def lab (s : Sample) (i : Nat) : Int := s.2.1.getD i 0
def co (s : Sample) (i j : Nat) : Int := (s.1.getD i tIS.dflt).getD j 0

structure Smp (s : Sample) : Prop where
  run : RunS s
  lb : ∀ i, i < s.1.length → lab s i = 1 ∨ lab s i = -1
  pt : ∀ i, i < s.1.length → isPoint (s.1.getD i tIS.dflt) = true
  cb : ∀ i j, i < s.1.length → j < (s.1.getD 0 tIS.dflt).length → -9 ≤ co s i j ∧ co s i j ≤ 9
  d1 : 1 ≤ (s.1.getD 0 tIS.dflt).length
theorem smp_of {s : Sample} (h : isSample s = true) (h0 : s.1.length ≠ 0) : Smp s := by
  have R := runS_of h h0
  unfold isSample at h
  simp only [Bool.and_eq_true] at h
  obtain ⟨_, h3, h4⟩ := h
  have hp : ∀ i, i < s.1.length → isPoint (s.1.getD i tIS.dflt) = true := fun i hi => by
    have := List.all_eq_true.1 h3 _ (getD_mem hi tIS.dflt)
    simp only [okPt, Bool.and_eq_true] at this
    exact this.1
  refine ⟨R, fun i hi => ?_, hp, fun i j hi hj => ?_, ?_⟩
  · have hi' : i < s.2.1.length := by rw [R.lab]; exact hi
    have := List.all_eq_true.1 h4 _ (getD_mem hi' 0)
    simpa [isLabel, lab] using this
  · have h5 := hp i hi
    simp only [isPoint, Bool.and_eq_true] at h5
    have hj' : j < (s.1.getD i tIS.dflt).length := by rw [R.w i hi]; exact hj
    have := List.all_eq_true.1 h5.2 _ (getD_mem hj' 0)
    simp only [inB, Bool.and_eq_true, decide_eq_true_eq] at this
    exact this
  · have h5 := hp 0 (by omega)
    simp only [isPoint, inB, Bool.and_eq_true, decide_eq_true_eq] at h5
    omega

/-- A plane told by weights of points. -/
structure PlaneBy (s : Sample) (w : Int → Int → Int) (bd : Int) (p : Plane) : Prop where
  len : p.1.length = (s.1.getD 0 tIS.dflt).length
  wt : ∀ j, j < (s.1.getD 0 tIS.dflt).length → p.1.getD j 0 = w j 0
  b : p.2.1 = bd

theorem plane_ext {p q : Plane} (h1 : p.1.length = q.1.length) (h2 : ∀ j, j < p.1.length → p.1.getD j 0 = q.1.getD j 0) (h3 : p.2.1 = q.2.1) : p = q := by
  obtain ⟨a, b, ⟨⟩⟩ := p
  obtain ⟨c, d, ⟨⟩⟩ := q
  simp only at h1 h2 h3
  subst h3
  have : a = c := by
    refine List.ext_getElem h1 fun i hi hi' => ?_
    have := h2 i hi
    rw [List.getD_eq_getElem?_getD, List.getElem?_eq_getElem hi, List.getD_eq_getElem?_getD, List.getElem?_eq_getElem hi'] at this
    exact this
  rw [this]

theorem isPlane_in {p : Plane} (h : isPlane p = true) : (∀ j, j < p.1.length → -99 ≤ p.1.getD j 0 ∧ p.1.getD j 0 ≤ 99) ∧ (-99 ≤ p.2.1 ∧ p.2.1 ≤ 99) := by
  simp only [isPlane, Bool.and_eq_true] at h
  obtain ⟨⟨_, h2⟩, h3⟩ := h
  refine ⟨fun j hj => ?_, ?_⟩
  · have := List.all_eq_true.1 h2 _ (getD_mem hj 0)
    simpa only [inB, Bool.and_eq_true, decide_eq_true_eq] using this
  · simpa only [inB, Bool.and_eq_true, decide_eq_true_eq] using h3

/-- The plane that a trace leads to. -/
def trW (s : Sample) (tr : List Int) (j : Nat) : Int := sL (fun t => lab s t.toNat * co s t.toNat j) tr
def trB (s : Sample) (tr : List Int) : Int := -(sL (fun t => lab s t.toNat) tr)
structure TrP (s : Sample) (tr : List Int) (p : Plane) : Prop where
  len : p.1.length = (s.1.getD 0 tIS.dflt).length
  wt : ∀ j, j < (s.1.getD 0 tIS.dflt).length → p.1.getD j 0 = trW s tr j
  b : p.2.1 = trB s tr
  ok : isPlane p = true

theorem trP0 {s : Sample} (S : Smp s) : TrP s [] (plane0 s) := by
  have hg : ∀ j, (List.replicate (s.1.getD 0 tIS.dflt).length (0 : Int)).getD j 0 = 0 := fun j => by
    rw [List.getD_eq_getElem?_getD, List.getElem?_replicate]; split <;> rfl
  refine ⟨by simp [plane0], fun j _ => by show (List.replicate _ (0 : Int)).getD j 0 = _; rw [hg]; rfl, rfl, ?_⟩
  have h1 := S.d1
  have h2 := S.run.small
  unfold plane0 isPlane
  generalize (s.1.getD 0 tIS.dflt).length = d at h1 h2
  have e1 : inB ((List.replicate d (0 : Int)).length : Int) 1 4 = true := by
    rw [List.length_replicate]
    simp only [inB, Bool.and_eq_true, decide_eq_true_eq]; omega
  have e2 : (List.replicate d (0 : Int)).all (inB · (-99) 99) = true := by
    rw [List.all_eq_true]
    intro x hx
    rw [List.eq_of_mem_replicate hx]; decide
  show (inB ((List.replicate d (0 : Int)).length : Int) 1 4 && (List.replicate d (0 : Int)).all (inB · (-99) 99) && inB 0 (-99) 99) = true
  rw [e1, e2]; decide

theorem trP_step {s : Sample} (S : Smp s) {tr : List Int} {p : Plane} (T : TrP s tr p) {n : Nat} (hn : n < s.1.length) (hok : isPlane (stepTo p (s.1.getD n tIS.dflt) (lab s n)) = true) :
    TrP s (tr ++ [(n : Int)]) (stepTo p (s.1.getD n tIS.dflt) (lab s n)) := by
  obtain ⟨h1, h2, h3⟩ := isPlane_in T.ok
  have hl := S.lb n hn
  refine ⟨by show (addW _ _ _).length = _; rw [addW_length]; exact T.len, fun j hj => ?_, ?_, hok⟩
  · show (addW _ _ _).getD j 0 = _
    have hj' : j < p.1.length := by rw [T.len]; exact hj
    rw [addW_getD (by rw [T.len, S.run.w n hn]) hj']
    have hw := h1 j hj'
    have hc := S.cb n j hn hj
    have e : (s.1.getD n tIS.dflt).getD j 0 = co s n j := rfl
    rw [e]
    unfold trW
    rw [sL_snoc, ← show trW s tr j = sL (fun t => lab s t.toNat * co s t.toNat j) tr from rfl, ← T.wt j hj]
    show _ = _ + lab s ((n : Int).toNat) * co s ((n : Int).toNat) j
    rw [Int.toNat_natCast]
    rcases hl with h | h <;> rw [h]
    · rw [wrap_in (n := 1 * co s n j) (by omega) (by omega), wrap_in (by omega) (by omega)]
    · rw [wrap_in (n := -1 * co s n j) (by omega) (by omega), wrap_in (by omega) (by omega)]
  · show IntKind.i64.wrap (p.2.1 - lab s n) = _
    unfold trB
    rw [sL_snoc]
    have := T.b
    unfold trB at this
    show _ = -(_ + lab s ((n : Int).toNat))
    rw [Int.toNat_natCast, wrap_in (by omega) (by omega), this]; omega

/-! ### Planes of counts -/
/-- The plane of counts, by the first points. -/
def pcTo (s : Sample) (c : List Int) : Nat → Plane
  | 0 => plane0 s
  | n + 1 => stepTo (pcTo s c n) (s.1.getD n tIS.dflt) (IntKind.i64.wrap (lab s n * c.getD n 0))
theorem pcTo_len (s : Sample) (c : List Int) : ∀ n, (pcTo s c n).1.length = (s.1.getD 0 tIS.dflt).length := by
  intro n
  induction n with
  | zero => simp [pcTo, plane0]
  | succ n ih => show (addW _ _ _).length = _; rw [addW_length]; exact ih
theorem pcTo_val {s : Sample} (S : Smp s) {c : List Int} (hc : ∀ i, i < s.1.length → 0 ≤ c.getD i 0 ∧ c.getD i 0 ≤ 1000) : ∀ n, n ≤ s.1.length →
    (∀ j, j < (s.1.getD 0 tIS.dflt).length → (pcTo s c n).1.getD j 0 = sN (fun i => c.getD i 0 * (lab s i * co s i j)) n) ∧ (pcTo s c n).2.1 = -(sN (fun i => c.getD i 0 * lab s i) n) := by
  have few := S.run.few
  have t1 : ∀ i j, i < s.1.length → j < (s.1.getD 0 tIS.dflt).length → -9000 ≤ c.getD i 0 * (lab s i * co s i j) ∧ c.getD i 0 * (lab s i * co s i j) ≤ 9000 := by
    intro i j hi hj
    have h1 := hc i hi
    have h2 := S.cb i j hi hj
    have h3 : -9 ≤ lab s i * co s i j ∧ lab s i * co s i j ≤ 9 := by rcases S.lb i hi with h | h <;> rw [h] <;> omega
    generalize lab s i * co s i j = y at h3
    generalize c.getD i 0 = x at h1
    have a1 := Int.mul_le_mul_of_nonneg_left h3.2 h1.1
    have a2 := Int.mul_le_mul_of_nonneg_left h3.1 h1.1
    omega
  have t2 : ∀ i, i < s.1.length → -1000 ≤ c.getD i 0 * lab s i ∧ c.getD i 0 * lab s i ≤ 1000 := by
    intro i hi
    have h1 := hc i hi
    rcases S.lb i hi with h | h <;> rw [h] <;> omega
  intro n
  induction n with
  | zero =>
    intro _
    have hg : ∀ j, (List.replicate (s.1.getD 0 tIS.dflt).length (0 : Int)).getD j 0 = 0 := fun j => by
      rw [List.getD_eq_getElem?_getD, List.getElem?_replicate]; split <;> rfl
    exact ⟨fun j _ => hg j, rfl⟩
  | succ n ih =>
    intro hn
    obtain ⟨i1, i2⟩ := ih (by omega)
    have hn' : n < s.1.length := by omega
    have hm : IntKind.i64.wrap (lab s n * c.getD n 0) = c.getD n 0 * lab s n := by
      have := t2 n hn'
      rw [Int.mul_comm, wrap_in (by omega) (by omega)]
    refine ⟨fun j hj => ?_, ?_⟩
    · show (addW _ _ _).getD j 0 = _
      rw [addW_getD (by rw [pcTo_len, S.run.w n hn']) (by rw [pcTo_len]; exact hj), hm, i1 j hj]
      have e : (s.1.getD n tIS.dflt).getD j 0 = co s n j := rfl
      rw [e, Int.mul_assoc]
      have h1 := t1 n j hn' hj
      have h2 := sN_bd (f := fun i => c.getD i 0 * (lab s i * co s i j)) (c := 9000) (n := n) fun i hi => t1 i j (by omega) hj
      rw [wrap_in (n := c.getD n 0 * (lab s n * co s n j)) (by omega) (by omega), wrap_in (by omega) (by omega)]
      rfl
    · show IntKind.i64.wrap ((pcTo s c n).2.1 - IntKind.i64.wrap (lab s n * c.getD n 0)) = _
      rw [hm, i2]
      have h1 := t2 n hn'
      have h2 := sN_bd (f := fun i => c.getD i 0 * lab s i) (c := 1000) (n := n) fun i hi => t2 i (by omega)
      rw [wrap_in (by omega) (by omega)]
      simp only [sN]; omega

theorem told_plane {s : Sample} (S : Smp s) {tr : List Int} {p : Plane} (T : TrP s tr p) (hl : tr.length ≤ 1000) (hi : ∀ t ∈ tr, 0 ≤ t ∧ t < s.1.length) :
    pcTo s (cnt s.1.length tr tr.length) s.1.length = p := by
  have C := cntOk tr (by omega) hi
  obtain ⟨v1, v2⟩ := pcTo_val S (c := cnt s.1.length tr tr.length) (fun i hi => ⟨C.lo i hi, by have := C.hi i hi; omega⟩) s.1.length (Nat.le_refl _)
  refine plane_ext (by rw [pcTo_len, T.len]) (fun j hj => ?_) ?_
  · rw [pcTo_len] at hj
    rw [v1 j hj, T.wt j hj]
    exact C.sum fun t => lab s t.toNat * co s t.toNat j
  · rw [v2, T.b]
    exact congrArg (fun x : Int => -x) (C.sum fun t => lab s t.toNat)

end Go.Proofs.Ytlndfmmigndgeaa.Ev
