/- What the law of perceptrons leans on. Plain facts. -/
import Derived.Test.YtlndfmmigndgeaaFnPG
import Derived.Test.YtlndfmmigndgeaaFnPQ
import Derived.Test.YtlndfmmigndgeaaFnPE
import Derived.Test.YtlndfmmigndgeaaFnPV
import Derived.Test.YtlndfmmigndgeaaFnPS
namespace Go.Proofs.Ytlndfmmigndgeaa.Ev
open Go
set_option linter.unusedVariables false
set_option linter.unusedSimpArgs false
set_option maxRecDepth 100000
set_option exponentiation.threshold 100000
set_option maxHeartbeats 4000000

theorem isCode_of {code : List Int} (hw : WfD tB code) (h : ¬ (code.length : Int) > 65536) : IsCode code := by
  refine ⟨by omega, fun n hn => ?_⟩
  have h1 : (Lit.int .u8 (code.getD n 0)).wf = true := hw.2.2 _ (getD_mem hn 0)
  have e1 : IntKind.u8.min = 0 := by decide
  have e2 : IntKind.u8.max = 255 := by decide
  simp only [Lit.wf, e1, e2, Bool.and_eq_true, decide_eq_true_eq] at h1
  omega
theorem isCode_cut {code : List Int} (hc : IsCode code) (h : code.length ≤ 65536) : IsCode (code.drop (min 1 code.length) ++ [IntKind.u8.wrap ((min 1 code.length : Nat) : Int)]) := by
  have hw : ∀ m : Nat, m ≤ 1 → IntKind.u8.wrap ((m : Nat) : Int) = m := by
    intro m hm
    have : m = 0 ∨ m = 1 := by omega
    rcases this with rfl | rfl <;> rfl
  refine ⟨by rw [List.length_append, List.length_drop]; show code.length - _ + 1 ≤ _; omega, fun n hn => ?_⟩
  have hm := getD_mem hn 0
  rcases List.mem_append.1 hm with h1 | h1
  · have h2 := List.mem_of_mem_drop h1
    obtain ⟨i, hi, e⟩ := List.getElem_of_mem h2
    have := hc.byte i hi
    rw [List.getD_eq_getElem?_getD, List.getElem?_eq_getElem hi, e] at this
    exact this
  · rw [List.mem_singleton.1 h1, hw _ (by omega)]
    omega

theorem sI_sL : ∀ l : List Int, sI l = sL (fun t => t) l := by
  intro l
  induction l with
  | nil => rfl
  | cons x l ih => simp only [sI, sL, ih]
theorem sL_one : ∀ l : List Int, sL (fun _ => 1) l = l.length := by
  intro l
  induction l with
  | nil => rfl
  | cons x l ih => simp only [sL, ih, List.length_cons]; omega
theorem sN_take {c : List Int} : ∀ n, n ≤ c.length → sN (fun i => c.getD i 0 * 1) n = sI (c.take n) := by
  intro n
  induction n with
  | zero => intro _; rfl
  | succ n ih => intro h; simp only [sN]; rw [ih (by omega), take_getD c (by omega) 0, sI_snoc]; omega
theorem le_sum {x : Int} : ∀ {l : List Int}, (∀ t ∈ l, 0 ≤ t) → x ∈ l → x ≤ sL (fun t => t) l := by
  intro l
  induction l with
  | nil => intro _ h; simp at h
  | cons y l ih =>
    intro h hm
    have h1 := h y (List.mem_cons_self ..)
    have hl := fun t ht => h t (List.mem_cons_of_mem _ ht)
    have h2 : 0 ≤ sL (fun t => t) l := by
      rw [← sI_sL]
      clear ih hm
      induction l with
      | nil => exact Int.le_refl _
      | cons z l ih2 =>
        have := ih2 (fun t ht => h t (by rcases List.mem_cons.1 ht with e | e; exact List.mem_cons.2 (.inl e); exact List.mem_cons.2 (.inr (List.mem_cons.2 (.inr e))))) (fun t ht => hl t (List.mem_cons_of_mem _ ht))
        have h3 := hl z (List.mem_cons_self ..)
        simp only [sI]; omega
    simp only [sL]
    rcases List.mem_cons.1 hm with e | hm
    · subst e; omega
    · have := ih hl hm; omega
theorem misTo_nil {p : Plane} {s : Sample} : ∀ n, (∀ i, i < n → side p (s.1.getD i tIS.dflt) = s.2.1.getD i 0) → misTo p s n = [] := by
  intro n
  induction n with
  | zero => intro _; rfl
  | succ n ih => intro h; rw [misTo_yes (h n (by omega)), ih fun i hi => h i (by omega)]

structure RF (s : Sample) (R : Nat) (st : RT) : Prop where
  S : Smp s
  q : isSample s = true
  n0 : s.1.length ≠ 0
  R1 : 0 < R
  R2 : R ≤ 12
  run : rdsR s R ([plane0 s], [], []) = some st
  f : FinI s R st
  t : st.2.1.length ≤ 192
theorem rf_of {s : Sample} {r : Int} {st : RT} (q : runO s r = some st) : RF s r.toNat st := by
  have g := (runO_good q).1.t
  unfold runO at q
  by_cases h : okRun s r = true
  · rw [if_pos h] at q
    unfold okRun at h
    simp only [Bool.and_eq_true] at h
    obtain ⟨h1, h2, h3⟩ := h
    have hr : s.1.length ≠ 0 := by simpa using h2
    have h3 : 1 ≤ r ∧ r ≤ 12 := by simpa [inB] using h3
    have S := smp_of h1 hr
    exact ⟨S, h1, hr, by omega, by omega, q, fin_of S (by omega) q, g⟩
  · rw [if_neg h] at q; cases q

theorem RF.fits {s : Sample} {R : Nat} {st : RT} (F : RF s R st) {n : Nat} (hn : n < st.1.length) : Fits (st.1.getD n shPlane.dflt) s := by
  obtain ⟨_, h⟩ := F.f.i.i.ok _ (getD_mem hn shPlane.dflt)
  have := F.S.run.small
  have := F.S.run.few
  exact ⟨by omega, fun i hi => by rw [h, F.S.run.w i hi]; exact Nat.le_refl _, F.S.run.lab, by omega⟩
theorem RF.suits {s : Sample} {R : Nat} {st : RT} (F : RF s R st) {n : Nat} (hn : n < st.1.length) : suits s (st.1.getD n shPlane.dflt) = true := by
  obtain ⟨h1, h⟩ := F.f.i.i.ok _ (getD_mem hn shPlane.dflt)
  unfold Ev.suits
  rw [F.q, h1]
  have : fstLen s = (s.1.getD 0 tIS.dflt).length := by unfold fstLen; rw [getD_zero]; rfl
  rw [this, h]; simp
theorem RF.last {s : Sample} {R : Nat} {st : RT} (F : RF s R st) : st.1.length - 1 < st.1.length := by have := F.f.i.i.ne; omega
theorem RF.cnt {s : Sample} {R : Nat} {st : RT} (F : RF s R st) : CntOk s.1.length st.2.1 (cnt s.1.length st.2.1 st.2.1.length) := by
  have := F.t
  exact cntOk st.2.1 (by omega) F.f.i.i.ix
theorem RF.told {s : Sample} {R : Nat} {st : RT} (F : RF s R st) : pcR s (Ev.cnt s.1.length st.2.1 st.2.1.length) = (lastP st.1, true, ()) := by
  have ht := F.t
  have e := told_plane F.S F.f.i.i.t (by omega) F.f.i.i.ix
  have C := F.cnt
  have hok : pcOk s (Ev.cnt s.1.length st.2.1 st.2.1.length) = true := pcOk_yes F.q F.n0 C.len (List.all_eq_true.2 fun x hx => by
    obtain ⟨i, hi, ex⟩ := List.getElem_of_mem hx
    have h1 := C.lo i (by rw [← C.len]; exact hi)
    have h2 := C.hi i (by rw [← C.len]; exact hi)
    rw [List.getD_eq_getElem?_getD, List.getElem?_eq_getElem hi, ex] at h1 h2
    have h1 : 0 ≤ x := h1
    have h2 : x ≤ st.2.1.length := h2
    simp only [inB, Bool.and_eq_true, decide_eq_true_eq]; omega)
  rw [pcR_yes hok (by rw [e]; exact F.f.i.i.t.ok), e]
theorem RF.sumC {s : Sample} {R : Nat} {st : RT} (F : RF s R st) : sI (Ev.cnt s.1.length st.2.1 st.2.1.length) = st.2.1.length := by
  have C := F.cnt
  have h1 := C.sum fun _ => 1
  rw [sL_one] at h1
  rw [← h1]
  have h2 := sN_take (c := Ev.cnt s.1.length st.2.1 st.2.1.length) s.1.length (by rw [C.len]; exact Nat.le_refl _)
  rw [h2, List.take_of_length_le (by rw [C.len]; exact Nat.le_refl _)]
theorem RF.boundC {s : Sample} {R : Nat} {st : RT} (F : RF s R st) : ∀ x ∈ Ev.cnt s.1.length st.2.1 st.2.1.length, 0 ≤ x ∧ x ≤ 1000000 := by
  intro x hx
  have C := F.cnt
  have ht := F.t
  obtain ⟨i, hi, ex⟩ := List.getElem_of_mem hx
  have h1 := C.lo i (by rw [← C.len]; exact hi)
  have h2 := C.hi i (by rw [← C.len]; exact hi)
  rw [List.getD_eq_getElem?_getD, List.getElem?_eq_getElem hi, ex] at h1 h2
  have h1 : 0 ≤ x := h1
  have h2 : x ≤ st.2.1.length := h2
  omega
theorem RF.sumM {s : Sample} {R : Nat} {st : RT} (F : RF s R st) : sI st.2.2 = st.2.1.length := by rw [sI_sL]; exact F.f.i.sum
theorem RF.boundM {s : Sample} {R : Nat} {st : RT} (F : RF s R st) : ∀ x ∈ st.2.2, 0 ≤ x ∧ x ≤ 1000000 := by
  intro x hx
  have h1 := F.f.i.nn x hx
  have h2 := le_sum F.f.i.nn hx
  rw [F.f.i.sum] at h2
  have := F.t
  omega
theorem RF.pocket {s : Sample} {R : Nat} {st : RT} (F : RF s R st) : (misTo (st.1.getD (pk st.1 s st.1.length) shPlane.dflt) s s.1.length).length ≤ (misTo (lastP st.1) s s.1.length).length := pk_least st.1.length (st.1.length - 1) F.last
theorem step_eq {s : Sample} (S : Smp s) {p : Plane} {n : Nat} (hn : n < s.1.length) (hp : isPlane p = true) (hl : p.1.length = (s.1.getD 0 tIS.dflt).length) (hok : isPlane (nextP p (s.1.getD n tIS.dflt) (lab s n)) = true) :
    stepR p (s.1.getD n tIS.dflt) (lab s n) = (nextP p (s.1.getD n tIS.dflt) (lab s n), !(side p (s.1.getD n tIS.dflt) == lab s n), true, ()) := by
  have h1 : meets p (s.1.getD n tIS.dflt) = true := by
    unfold meets
    rw [hp, S.pt n hn, S.run.w n hn, hl]; simp
  have h2 : isLabel (lab s n) = true := by rcases S.lb n hn with h | h <;> rw [h] <;> rfl
  unfold stepR okStep
  rw [h1, h2, hok]; rfl

end Go.Proofs.Ytlndfmmigndgeaa.Ev
