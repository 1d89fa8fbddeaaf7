/- A proved evaluator for translated functions, part 3: what it computes is what the machine does. No conditions. -/
import Derived.Test.YtlndfmmigndgeaaEv2
/- Regions that draw their order: every order comes to what the text's order comes to. -/
namespace Go.Proofs.Ytlndfmmigndgeaa.Ev
open Go
set_option linter.unusedSimpArgs false
set_option linter.unusedVariables false

/-! ### Parts -/

/-- A value that falls into two. -/
def AV.two : AV → Option (AV × AV)
  | .pair x y => some (x, y)
  | .d (.pair s t) v => some (.d s v.1, .d t v.2)
  | _ => none

/-- Another part at a path through no element. -/
def updLR (v : AV) : List Stp → AV → AV
  | [], a => if v.size = a.size then v else a
  | .l :: p, a => match a.two with
    | some (x, y) => .pair (updLR v p x) y
    | none => a
  | .r _ :: p, a => match a.two with
    | some (x, y) => .pair x (updLR v p y)
    | none => a
  | .ix _ _ :: _, a => a

theorem two_size {a x y : AV} (h : a.two = some (x, y)) : a.size = x.size + y.size := by
  cases a with
  | pair u w => cases h; rfl
  | d s v => cases s <;> simp only [AV.two] at h <;> first | (cases h; rfl) | (simp at h; done)
  | _ => simp [AV.two] at h

theorem updLR_size {v : AV} : ∀ {p : List Stp} {a : AV}, (updLR v p a).size = a.size := by
  intro p
  induction p with
  | nil => intro a; simp only [updLR]; split <;> simp_all
  | cons i p ih =>
    intro a
    cases i with
    | l =>
      simp only [updLR]
      cases h : a.two with
      | none => rfl
      | some xy => obtain ⟨x, y⟩ := xy; rw [two_size h]; simp only [AV.size, ih]
    | r n =>
      simp only [updLR]
      cases h : a.two with
      | none => rfl
      | some xy => obtain ⟨x, y⟩ := xy; rw [two_size h]; simp only [AV.size, ih]
    | ix j z => rfl

theorem ex2 {u w : AV} {P : AV → AV → Prop} : (∃ x y, (u = x ∧ w = y) ∧ P x y) ↔ P u w := ⟨fun ⟨_, _, ⟨rfl, rfl⟩, h⟩ => h, fun h => ⟨u, w, ⟨rfl, rfl⟩, h⟩⟩

theorem part_l {a : AV} {p : List Stp} {K : AV → Prop} : PartP (.l :: p) a K ↔ ∃ x y, a.two = some (x, y) ∧ PartP p x K := by
  cases a with
  | pair u w => simp [PartP, AV.stepP, AV.two]
  | d s v => cases s <;> simp [PartP, AV.stepP, AV.two]
  | _ => simp [PartP, AV.stepP, AV.two]

theorem part_r {a : AV} {n : Nat} {p : List Stp} {K : AV → Prop} : PartP (.r n :: p) a K ↔ ∃ x y, a.two = some (x, y) ∧ x.size = n ∧ PartP p y K := by
  have one : ∀ {c : Prop} [Decidable c] {b : Prop}, (if c then b else False) ↔ c ∧ b := by intro c _ b; split <;> simp_all
  cases a with
  | pair u w => simp [PartP, AV.stepP, AV.two, one, ex2]
  | d s v => cases s <;> simp [PartP, AV.stepP, AV.two, one, ex2, AV.size]
  | _ => simp [PartP, AV.stepP, AV.two]

theorem part_pair_l {x y : AV} {p : List Stp} {K : AV → Prop} : PartP (.l :: p) (.pair x y) K ↔ PartP p x K := by rw [part_l]; simp [AV.two]
theorem part_pair_r {x y : AV} {n : Nat} {p : List Stp} {K : AV → Prop} : PartP (.r n :: p) (.pair x y) K ↔ x.size = n ∧ PartP p y K := by rw [part_r]; simp [AV.two, ex2]

theorem PartP_fun : ∀ {p : List Stp} {a b c : AV}, PartP p a (fun x => x = b) → PartP p a (fun x => x = c) → b = c := by
  intro p
  induction p with
  | nil => intro a b c h1 h2; exact h1.symm.trans h2
  | cons i p ih =>
    intro a b c h1 h2
    simp only [PartP] at h1 h2
    obtain ⟨x, h3, h4⟩ := stepP_iff.1 h1
    obtain ⟨y, h5, h6⟩ := stepP_iff.1 h2
    have : x = y := by
      cases i with
      | l => cases a with
        | pair u w => exact (h3 : u = x).symm.trans h5
        | d s v => cases s <;> first | exact (h3 : AV.d _ _ = x).symm.trans h5 | exact h3.elim
        | _ => exact h3.elim
      | r n => cases a with
        | pair u w => simp only [AV.stepP] at h3 h5; split at h3 <;> simp_all
        | d s v => cases s <;> first | (simp only [AV.stepP] at h3 h5; split at h3 <;> simp_all; done) | exact h3.elim
        | _ => exact h3.elim
      | ix j z => cases a with
        | own e o l =>
          by_cases e1 : e.size = z
          · simp only [AV.stepP, if_pos e1] at h3 h5; exact h3.2.symm.trans h5.2
          · simp only [AV.stepP, if_neg e1] at h3
        | hol e o l k b =>
          by_cases e1 : e.size = z
          · simp only [AV.stepP, if_pos e1] at h3 h5; exact h3.2.symm.trans h5.2
          · simp only [AV.stepP, if_neg e1] at h3
        | d s v => cases s <;> exact h3.elim
        | _ => exact h3.elim
    subst this
    exact ih h4 h6

theorem part_upd_off {v : AV} {K : AV → Prop} : ∀ {p q : List Stp} {a : AV}, parting p q = true → (PartP p (updLR v q a) K ↔ PartP p a K) := by
  intro p
  induction p with
  | nil => intro q a h; simp [parting] at h
  | cons i p ih =>
    intro q a h
    cases q with
    | nil => cases i <;> simp [parting] at h
    | cons j q =>
      cases i with
      | ix => simp [parting] at h
      | l => cases j with
        | ix => simp [parting] at h
        | l =>
          simp only [updLR]
          cases ht : a.two with
          | none => rfl
          | some xy => obtain ⟨x, y⟩ := xy; rw [part_pair_l, part_l, ih h]; simp [ht]
        | r m =>
          simp only [updLR]
          cases ht : a.two with
          | none => rfl
          | some xy => obtain ⟨x, y⟩ := xy; rw [part_pair_l, part_l]; simp [ht]
      | r n => cases j with
        | ix => simp [parting] at h
        | l =>
          simp only [updLR]
          cases ht : a.two with
          | none => rfl
          | some xy => obtain ⟨x, y⟩ := xy; rw [part_pair_r, part_r, updLR_size]; simp [ht, ex2]
        | r m =>
          simp only [updLR]
          cases ht : a.two with
          | none => rfl
          | some xy => obtain ⟨x, y⟩ := xy; rw [part_pair_r, part_r, ih h]; simp [ht, ex2]

theorem updLR_comm {u v : AV} : ∀ {p q : List Stp} {a : AV}, parting p q = true → updLR u p (updLR v q a) = updLR v q (updLR u p a) := by
  intro p
  induction p with
  | nil => intro q a h; simp [parting] at h
  | cons i p ih =>
    intro q a h
    cases q with
    | nil => cases i <;> simp [parting] at h
    | cons j q =>
      cases i with
      | ix => simp [parting] at h
      | l => cases j with
        | ix => simp [parting] at h
        | l => simp only [updLR]; cases ht : a.two with
          | none => simp [ht]
          | some xy => simp only [AV.two]; rw [ih h]
        | r m => simp only [updLR]; cases ht : a.two with
          | none => simp [ht]
          | some xy => simp only [AV.two]
      | r n => cases j with
        | ix => simp [parting] at h
        | l => simp only [updLR]; cases ht : a.two with
          | none => simp [ht]
          | some xy => simp only [AV.two]
        | r m => simp only [updLR]; cases ht : a.two with
          | none => simp [ht]
          | some xy => simp only [AV.two]; rw [ih h]

/-- The same part put into two values that agree there: what agreed goes on agreeing. -/
theorem part_upd_both {u o : AV} : ∀ {q p : List Stp} {a a2 : AV}, PartP q a (fun x => x = o) → PartP q a2 (fun x => x = o) → (∀ y, PartP p a (fun x => x = y) ↔ PartP p a2 (fun x => x = y)) →
    ∀ y, PartP p (updLR u q a) (fun x => x = y) ↔ PartP p (updLR u q a2) (fun x => x = y) := by
  intro q
  induction q with
  | nil => intro p a a2 h1 h2 h y; have h1 : a = o := h1; have h2 : a2 = o := h2; subst h1; subst h2; exact Iff.rfl
  | cons j q ih =>
    intro p a a2 h1 h2 h y
    cases j with
    | ix => exact h y
    | l =>
      obtain ⟨x, w, ht, g1⟩ := part_l.1 h1
      obtain ⟨x2, w2, ht2, g2⟩ := part_l.1 h2
      simp only [updLR, ht, ht2]
      cases p with
      | nil => have : a = a2 := ((h a2).2 rfl); subst this; rw [ht] at ht2; cases ht2; exact Iff.rfl
      | cons i p =>
        cases i with
        | ix => simp [PartP, AV.stepP]
        | l =>
          rw [part_pair_l, part_pair_l]
          refine ih g1 g2 (fun y => ?_) y
          have := h y
          rw [part_l, part_l, ht, ht2] at this
          simpa [ex2] using this
        | r n =>
          rw [part_pair_r, part_pair_r, updLR_size, updLR_size]
          have := h y
          rw [part_r, part_r, ht, ht2] at this
          simpa [ex2] using this
    | r m =>
      obtain ⟨x, w, ht, e1, g1⟩ := part_r.1 h1
      obtain ⟨x2, w2, ht2, e2, g2⟩ := part_r.1 h2
      simp only [updLR, ht, ht2]
      cases p with
      | nil => have : a = a2 := ((h a2).2 rfl); subst this; rw [ht] at ht2; cases ht2; exact Iff.rfl
      | cons i p =>
        cases i with
        | ix => simp [PartP, AV.stepP]
        | l =>
          rw [part_pair_l, part_pair_l]
          have := h y
          rw [part_l, part_l, ht, ht2] at this
          simpa [ex2] using this
        | r n =>
          rw [part_pair_r, part_pair_r, e1, e2]
          refine and_congr_right fun e => ?_
          refine ih g1 g2 (fun y => ?_) y
          have := h y
          rw [part_r, part_r, ht, ht2] at this
          simpa [ex2, e1, e2, e] using this

/-! ### Steps of a place, and its part -/

theorem lrs_spec : ∀ (p a : List Stp), ∃ post, p.reverse ++ a = lrs p a ++ post ∧ (post = [] ∨ ∃ j z r, post = .ix j z :: r) := by
  intro p
  induction p with
  | nil => intro a; exact ⟨[], by simp [lrs], .inl rfl⟩
  | cons i p ih =>
    intro a
    cases i with
    | l => obtain ⟨post, h1, h2⟩ := ih (.l :: a); exact ⟨post, by simpa [lrs] using h1, h2⟩
    | r n => obtain ⟨post, h1, h2⟩ := ih (.r n :: a); exact ⟨post, by simpa [lrs] using h1, h2⟩
    | ix j z =>
      obtain ⟨post, h1, h2⟩ := ih []
      refine ⟨post ++ .ix j z :: a, ?_, ?_⟩
      · simp only [List.append_nil] at h1
        simp [lrs, h1]
      · rcases h2 with rfl | ⟨j', z', r', rfl⟩
        · exact .inr ⟨j, z, a, rfl⟩
        · exact .inr ⟨j', z', _, rfl⟩

def allLR (p : List Stp) : Prop := ∀ i ∈ p, i.isLR = true
theorem lrs_LR : ∀ (p a : List Stp), allLR a → allLR (lrs p a) := by
  intro p
  induction p with
  | nil => intro a h; exact h
  | cons i p ih =>
    intro a h
    cases i with
    | l => exact ih _ (fun i hi => by rcases List.mem_cons.1 hi with rfl | hi; rfl; exact h i hi)
    | r n => exact ih _ (fun i hi => by rcases List.mem_cons.1 hi with rfl | hi; rfl; exact h i hi)
    | ix j z => exact ih _ (fun i hi => by simp at hi)

theorem part_app {K : AV → Prop} {post : List Stp} : ∀ {pre : List Stp} {a : AV}, PartP (pre ++ post) a K ↔ ∃ o, PartP pre a (fun x => x = o) ∧ PartP post o K := by
  intro pre
  induction pre with
  | nil => intro a; simp [PartP]
  | cons i pre ih =>
    intro a
    simp only [List.cons_append, PartP]
    constructor
    · intro h
      obtain ⟨b, h1, h2⟩ := stepP_iff.1 h
      obtain ⟨o, h3, h4⟩ := ih.1 h2
      exact ⟨o, stepP_iff.2 ⟨b, h1, h3⟩, h4⟩
    · rintro ⟨o, h1, h2⟩
      obtain ⟨b, h3, h4⟩ := stepP_iff.1 h1
      exact stepP_iff.2 ⟨b, h3, ih.2 ⟨o, h4, h2⟩⟩

theorem upd_l {v a : AV} {p : List Stp} {K : AV → Prop} : UpdP v (.l :: p) a K ↔ ∃ x y, a.two = some (x, y) ∧ UpdP v p x fun x' => K (.pair x' y) := by
  cases a with
  | pair u w => simp [UpdP, AV.two, ex2]
  | d s v => cases s <;> simp [UpdP, AV.two, ex2]
  | _ => simp [UpdP, AV.two]

theorem upd_r {v a : AV} {n : Nat} {p : List Stp} {K : AV → Prop} : UpdP v (.r n :: p) a K ↔ ∃ x y, a.two = some (x, y) ∧ x.size = n ∧ UpdP v p y fun y' => K (.pair x y') := by
  have one : ∀ {c : Prop} [Decidable c] {b : Prop}, (if c then b else False) ↔ c ∧ b := by intro c _ b; split <;> simp_all
  cases a with
  | pair u w => simp [UpdP, AV.two, one, ex2]
  | d s v => cases s <;> simp [UpdP, AV.two, one, ex2, AV.size]
  | _ => simp [UpdP, AV.two]

theorem upd_app {v : AV} {post : List Stp} : ∀ {pre : List Stp} {a : AV} {K : AV → Prop}, allLR pre → (UpdP v (pre ++ post) a K ↔ ∃ o, PartP pre a (fun x => x = o) ∧ ∃ o', UpdP v post o (fun x => x = o') ∧ o'.size = o.size ∧ K (updLR o' pre a)) := by
  have putSize : ∀ {e : Sh} {o : Ow} {l : List e.den} {i : Nat} {u w : AV}, putElemP e o l i (fun x => x = w) u → w.size = 1 := by
    intro e o l i u w h
    have hol : cond u.solid (AV.hol e o l i u = w) False → w.size = 1 := by
      cases u.solid with
      | true => intro h; have h : AV.hol e o l i u = w := h; subst h; rfl
      | false => intro h; exact h.elim
    simp only [putElemP] at h
    split at h
    · split at h
      · subst h; rfl
      · exact hol h
    · exact hol h
  have size : ∀ {p : List Stp} {a w : AV}, UpdP v p a (fun x => x = w) → w.size = a.size := by
    intro p
    induction p with
    | nil => intro a w h; simp only [UpdP] at h; split at h <;> simp_all
    | cons i p ih =>
      intro a w h
      cases i with
      | l =>
        obtain ⟨x, y, ht, h⟩ := upd_l.1 h
        obtain ⟨b, h1, h2⟩ := UpdP_iff.1 h
        subst h2
        rw [two_size ht]; simp only [AV.size, ih h1]
      | r n =>
        obtain ⟨x, y, ht, _, h⟩ := upd_r.1 h
        obtain ⟨b, h1, h2⟩ := UpdP_iff.1 h
        subst h2
        rw [two_size ht]; simp only [AV.size, ih h1]
      | ix j z =>
        cases a with
        | own e o l =>
          simp only [UpdP] at h
          split at h
          · obtain ⟨b, h1, h2⟩ := UpdP_iff.1 h.2
            exact putSize h2
          · exact h.elim
        | hol e o l k b' =>
          simp only [UpdP] at h
          split at h
          · obtain ⟨b, h1, h2⟩ := UpdP_iff.1 h.2
            exact putSize h2
          · exact h.elim
        | d s x => cases s <;> simp [UpdP] at h
        | _ => simp [UpdP] at h
  intro pre
  induction pre with
  | nil =>
    intro a K _
    simp only [List.nil_append, PartP]
    constructor
    · intro h
      obtain ⟨w, h1, h2⟩ := UpdP_iff.1 h
      have e := size h1
      exact ⟨a, rfl, w, h1, e, by simp only [updLR, if_pos e]; exact h2⟩
    · rintro ⟨o, rfl, o', h1, e, h2⟩
      simp only [updLR, if_pos e] at h2
      exact UpdP_iff.2 ⟨o', h1, h2⟩
  | cons i pre ih =>
    intro a K hl
    have hl' : allLR pre := fun x hx => hl x (List.mem_cons_of_mem _ hx)
    cases i with
    | ix => have := hl _ List.mem_cons_self; simp [Stp.isLR] at this
    | l =>
      simp only [List.cons_append]
      rw [upd_l]
      constructor
      · rintro ⟨x, y, ht, h⟩
        obtain ⟨o, h1, o', h2, h3, h4⟩ := (ih hl').1 h
        exact ⟨o, part_l.2 ⟨x, y, ht, h1⟩, o', h2, h3, by simp only [updLR, ht]; exact h4⟩
      · rintro ⟨o, h1, o', h2, h3, h4⟩
        obtain ⟨x, y, ht, h1⟩ := part_l.1 h1
        simp only [updLR, ht] at h4
        exact ⟨x, y, ht, (ih hl').2 ⟨o, h1, o', h2, h3, h4⟩⟩
    | r n =>
      simp only [List.cons_append]
      rw [upd_r]
      constructor
      · rintro ⟨x, y, ht, e, h⟩
        obtain ⟨o, h1, o', h2, h3, h4⟩ := (ih hl').1 h
        exact ⟨o, part_r.2 ⟨x, y, ht, e, h1⟩, o', h2, h3, by simp only [updLR, ht]; exact h4⟩
      · rintro ⟨o, h1, o', h2, h3, h4⟩
        obtain ⟨x, y, ht, e, h1⟩ := part_r.1 h1
        simp only [updLR, ht] at h4
        exact ⟨x, y, ht, e, (ih hl').2 ⟨o, h1, o', h2, h3, h4⟩⟩

/-- The part that was put is the part that is there. -/
theorem part_upd_self {u : AV} : ∀ {p : List Stp} {a o : AV}, PartP p a (fun x => x = o) → u.size = o.size → allLR p → PartP p (updLR u p a) (fun x => x = u) := by
  intro p
  induction p with
  | nil => intro a o h e _; have h : a = o := h; subst h; simp [updLR, PartP, e]
  | cons i p ih =>
    intro a o h e hl
    have hl' : allLR p := fun x hx => hl x (List.mem_cons_of_mem _ hx)
    cases i with
    | ix => have := hl _ List.mem_cons_self; simp [Stp.isLR] at this
    | l => obtain ⟨x, y, ht, h⟩ := part_l.1 h; simp only [updLR, ht]; rw [part_pair_l]; exact ih h e hl'
    | r n => obtain ⟨x, y, ht, e1, h⟩ := part_r.1 h; simp only [updLR, ht]; rw [part_pair_r]; exact ⟨e1, ih h e hl'⟩

/-- A slot has views of a region. -/
def Slot.hasR (s : Slot) (c : Nat) : Prop := (s.regA 0).testBit c = true

theorem regA_or (v : AV) : ∀ (m c : Nat), (v.regA m).testBit c = (m.testBit c || (v.regA 0).testBit c) := by
  have one : ∀ (q : Pl) (m c : Nat), (q.regA m).testBit c = (m.testBit c || (q.regA 0).testBit c) := by
    intro q m c; simp [Pl.regA, Nat.testBit_or]
  induction v with
  | vw q e => exact one q
  | sub q e lo n => exact one q
  | ptr q => exact one q
  | pair a b iha ihb => intro m c; simp only [AV.regA]; rw [ihb, iha, ihb (a.regA 0), Bool.or_assoc]
  | tup a ih => exact ih
  | fn f a ih => exact ih
  | _ => intro m c; simp [AV.regA]

theorem slot_regA_or (s : Slot) (m c : Nat) : (s.regA m).testBit c = (m.testBit c || (s.regA 0).testBit c) := by
  simp only [Slot.regA]
  rw [regA_or s.b, regA_or s.v, regA_or s.b (s.v.regA 0), Bool.or_assoc]

/-- Where a value has no views of a region, striking them changes nothing. -/
theorem noR_clean {r : Reg} {p : List Stp} : ∀ {v : AV}, (v.regA 0).testBit (Reg.code r.k r.s r.bx) = false → v.clean r p = true := by
  have one : ∀ {q : Pl} {c : Bool}, (q.regA 0).testBit (Reg.code r.k r.s r.bx) = false → cond (q.r.same r) (!c) true = true := by
    intro q c h
    cases hs : q.r.same r with
    | false => rfl
    | true =>
      have := Reg.same_iff.1 hs
      rw [Pl.regA, this] at h
      simp [Nat.testBit_or, Nat.testBit_two_pow] at h
  intro v
  induction v with
  | vw q e => exact one
  | sub q e lo n => exact one
  | ptr q => exact one
  | pair a b iha ihb =>
    intro h
    simp only [AV.regA] at h
    rw [regA_or] at h
    simp only [Bool.or_eq_false_iff] at h
    simp only [AV.clean, iha h.1, ihb h.2, Bool.and_self]
  | tup a ih => exact ih
  | fn f a ih => exact ih
  | _ => intro _; rfl


/-! ### Values with fewer views of a region -/

inductive Sub (c : Nat) : AV → AV → Prop
  | same (a : AV) : Sub c a a
  | none {a b : AV} : (a.regA 0).testBit c = false → Sub c a b
  | pair {a b a' b' : AV} : Sub c a a' → Sub c b b' → Sub c (.pair a b) (.pair a' b')
  | tup {a a' : AV} : Sub c a a' → Sub c (.tup a) (.tup a')

theorem pair_reg {a b : AV} {c : Nat} : ((AV.pair a b).regA 0).testBit c = false ↔ (a.regA 0).testBit c = false ∧ (b.regA 0).testBit c = false := by
  simp only [AV.regA]; rw [regA_or]; simp

theorem Sub.reg {c : Nat} {a b : AV} (h : Sub c a b) : (b.regA 0).testBit c = false → (a.regA 0).testBit c = false := by
  induction h with
  | same a => exact id
  | none h => exact fun _ => h
  | pair _ _ ih1 ih2 => rw [pair_reg, pair_reg]; exact fun ⟨h1, h2⟩ => ⟨ih1 h1, ih2 h2⟩
  | tup _ ih => exact ih

theorem Sub.trans {c : Nat} {a b : AV} (h : Sub c a b) : ∀ {d : AV}, Sub c b d → Sub c a d := by
  induction h with
  | same a => exact fun g => g
  | none h => exact fun _ => .none h
  | @pair a b a' b' h1 h2 ih1 ih2 =>
    intro d g
    generalize e : AV.pair a' b' = x at g
    cases g with
    | same => subst e; exact .pair h1 h2
    | none g => subst e; exact .none ((Sub.pair h1 h2).reg g)
    | pair g1 g2 => cases e; exact .pair (ih1 g1) (ih2 g2)
    | tup g => cases e
  | @tup a a' h ih =>
    intro d g
    generalize e : AV.tup a' = x at g
    cases g with
    | same => subst e; exact .tup h
    | none g => subst e; exact .none ((Sub.tup h).reg g)
    | pair g1 g2 => cases e
    | tup g => cases e; exact .tup (ih g)

theorem Sub.clean {c : Nat} {r : Reg} {p : List Stp} {a b : AV} (hc : Reg.code r.k r.s r.bx = c) (h : Sub c a b) : b.clean r p = true → a.clean r p = true := by
  induction h with
  | same a => exact id
  | none h => exact fun _ => noR_clean (by rw [hc]; exact h)
  | pair _ _ ih1 ih2 => simp only [AV.clean, Bool.and_eq_true]; exact fun ⟨h1, h2⟩ => ⟨ih1 h1, ih2 h2⟩
  | tup _ ih => simp only [AV.clean]; exact ih

theorem d_reg {s : Sh} {x : s.den} {c : Nat} : ((AV.d s x).regA 0).testBit c = false := by simp [AV.regA]

theorem two_reg {a x y : AV} {c : Nat} (h : a.two = some (x, y)) : (a.regA 0).testBit c = false ↔ (x.regA 0).testBit c = false ∧ (y.regA 0).testBit c = false := by
  cases a with
  | pair u w => cases h; exact pair_reg
  | d s v => cases s <;> simp only [AV.two] at h <;> first | (cases h; simp [d_reg]; done) | (simp at h; done)
  | _ => simp [AV.two] at h

/-- A pair against what falls into two. -/
theorem Sub.two {c : Nat} {a x y x' y' : AV} (h : a.two = some (x, y)) (h1 : Sub c x' x) (h2 : Sub c y' y) : Sub c (.pair x' y') a := by
  cases a with
  | pair u w => cases h; exact .pair h1 h2
  | d s v => cases s <;> simp only [AV.two] at h <;> first | (cases h; exact .none (pair_reg.2 ⟨h1.reg d_reg, h2.reg d_reg⟩)) | (simp at h; done)
  | _ => simp [AV.two] at h
theorem Sub.two' {c : Nat} {a x y x' y' : AV} (h : a.two = some (x, y)) (h1 : Sub c x x') (h2 : Sub c y y') : Sub c a (.pair x' y') := by
  cases a with
  | pair u w => cases h; exact .pair h1 h2
  | d s v => cases s <;> simp only [AV.two] at h <;> first | (cases h; exact .none d_reg) | (simp at h; done)
  | _ => simp [AV.two] at h
theorem Sub.parts {c : Nat} {a a2 x y x2 y2 : AV} (h : Sub c a2 a) (e : a.two = some (x, y)) (e2 : a2.two = some (x2, y2)) : Sub c x2 x ∧ Sub c y2 y := by
  cases h with
  | same => rw [e] at e2; cases e2; exact ⟨.same _, .same _⟩
  | none h => obtain ⟨h1, h2⟩ := (two_reg e2).1 h; exact ⟨.none h1, .none h2⟩
  | pair h1 h2 => cases e; cases e2; exact ⟨h1, h2⟩
  | tup _ => simp [AV.two] at e

theorem Sub.upd_both {c : Nat} {u o : AV} : ∀ {p : List Stp} {a a2 : AV}, PartP p a (fun x => x = o) → PartP p a2 (fun x => x = o) → Sub c a2 a → Sub c (updLR u p a2) (updLR u p a) := by
  intro p
  induction p with
  | nil => intro a a2 h1 h2 _; have h1 : a = o := h1; have h2 : a2 = o := h2; subst h1; subst h2; exact .same _
  | cons i p ih =>
    intro a a2 h1 h2 h
    cases i with
    | ix => exact h
    | l =>
      obtain ⟨x, y, e, g⟩ := part_l.1 h1
      obtain ⟨x2, y2, e2, g2⟩ := part_l.1 h2
      obtain ⟨s1, s2⟩ := h.parts e e2
      simp only [updLR, e, e2]
      exact .pair (ih g g2 s1) s2
    | r n =>
      obtain ⟨x, y, e, _, g⟩ := part_r.1 h1
      obtain ⟨x2, y2, e2, _, g2⟩ := part_r.1 h2
      obtain ⟨s1, s2⟩ := h.parts e e2
      simp only [updLR, e, e2]
      exact .pair s1 (ih g g2 s2)

theorem Sub.upd_new {c : Nat} {u : AV} (hu : (u.regA 0).testBit c = false) : ∀ {p : List Stp} {a : AV}, Sub c (updLR u p a) a := by
  intro p
  induction p with
  | nil => intro a; simp only [updLR]; split; exact .none hu; exact .same _
  | cons i p ih =>
    intro a
    cases i with
    | ix => exact .same _
    | l => simp only [updLR]; cases e : a.two with
      | none => exact .same _
      | some xy => obtain ⟨x, y⟩ := xy; exact Sub.two e ih (.same _)
    | r n => simp only [updLR]; cases e : a.two with
      | none => exact .same _
      | some xy => obtain ⟨x, y⟩ := xy; exact Sub.two e (.same _) ih

theorem Sub.upd_old {c : Nat} {u o : AV} (ho : (o.regA 0).testBit c = false) : ∀ {p : List Stp} {a : AV}, PartP p a (fun x => x = o) → Sub c a (updLR u p a) := by
  intro p
  induction p with
  | nil => intro a h; have h : a = o := h; subst h; exact .none ho
  | cons i p ih =>
    intro a h
    cases i with
    | ix => exact .same _
    | l =>
      obtain ⟨x, y, e, g⟩ := part_l.1 h
      simp only [updLR, e]
      exact Sub.two' e (ih g) (.same _)
    | r n =>
      obtain ⟨x, y, e, _, g⟩ := part_r.1 h
      simp only [updLR, e]
      exact Sub.two' e (.same _) (ih g)

/-! ### Parts of bundles -/

def TupQ : List Stp → AV → AV → Prop
  | [.l], .pair x _, v => x = v
  | .r 0 :: p, .pair _ y, v => TupQ p y v
  | _, _, _ => False

/-- Does a bundle hold a value at a part? -/
def TupT (p : List Stp) (a v : AV) : Prop :=
  match a with
  | .tup b => TupQ p b v
  | _ => False

theorem tupPt_ne (i : Nat) : tupPt i ≠ [] := by cases i <;> simp [tupPt]

theorem tupQ_pt : ∀ {i : Nat} {a v : AV}, TupQ (tupPt i) a v ↔ tupGet a i = some v := by
  intro i
  induction i with
  | zero => intro a v; cases a <;> simp [tupPt, TupQ, tupGet]
  | succ i ih => intro a v; cases a <;> simp [tupPt, TupQ, tupGet, ih]

theorem tupT_pt {i : Nat} {a v : AV} (h : TupT (tupPt i) a v) : ∃ b, a = .tup b ∧ tupGet b i = some v := by
  cases a <;> simp only [TupT] at h
  exact ⟨_, rfl, tupQ_pt.1 h⟩

theorem part_tup {p : List Stp} {b o : AV} (h : p ≠ []) : ¬ PartP p (.tup b) (fun x => x = o) := by
  cases p with
  | nil => exact absurd rfl h
  | cons i p => intro h; simp [PartP, AV.stepP] at h

theorem upd_tup {p : List Stp} {b u : AV} (h : p ≠ []) : updLR u p (.tup b) = .tup b := by
  cases p with
  | nil => exact absurd rfl h
  | cons i p => cases i <;> simp [updLR, AV.two]

theorem upd_untup {p : List Stp} {a u : AV} (h : p ≠ []) (ha : ∀ b, a ≠ .tup b) : ∀ b, updLR u p a ≠ .tup b := by
  cases p with
  | nil => exact absurd rfl h
  | cons i p =>
    intro b
    cases i with
    | ix => exact ha b
    | l => simp only [updLR]; cases a.two with
      | none => exact ha b
      | some xy => simp
    | r n => simp only [updLR]; cases a.two with
      | none => exact ha b
      | some xy => simp

theorem tupT_upd {p q : List Stp} {a u o : AV} (h : q ≠ []) : TupT p (updLR u q a) o ↔ TupT p a o := by
  cases a with
  | tup b => rw [upd_tup h]
  | _ =>
    constructor
    · intro g
      unfold TupT at g
      split at g
      · rename_i b e; exact absurd e (upd_untup h (by simp) b)
      · exact g.elim
    · intro g; exact g.elim

theorem tupQ_off : ∀ {i : Nat} {p : List Stp} {a o : AV}, parting p (tupPt i) = true → (TupQ p (tupSet a i) o ↔ TupQ p a o) := by
  intro i
  induction i with
  | zero =>
    intro p a o h
    cases p with
    | nil => simp [parting] at h
    | cons j p => cases j with
      | l => cases p <;> simp [parting, tupPt] at h
      | ix => simp [parting, tupPt] at h
      | r n =>
        cases a <;> try exact Iff.rfl
        cases n <;> exact Iff.rfl
  | succ i ih =>
    intro p a o h
    cases p with
    | nil => simp [parting] at h
    | cons j p => cases j with
      | l =>
        cases a <;> try exact Iff.rfl
        cases p <;> exact Iff.rfl
      | ix => simp [parting, tupPt] at h
      | r n =>
        cases a <;> try exact Iff.rfl
        cases n with
        | zero => exact ih h
        | succ n => exact Iff.rfl

theorem tupQ_both : ∀ {i : Nat} {p : List Stp} {a a2 v : AV}, tupGet a i = some v → tupGet a2 i = some v → (∀ o, TupQ p a o ↔ TupQ p a2 o) → ∀ o, TupQ p (tupSet a i) o ↔ TupQ p (tupSet a2 i) o := by
  intro i
  induction i with
  | zero =>
    intro p a a2 v h1 h2 h o
    cases a <;> simp only [tupGet] at h1 <;> try (simp at h1; done)
    cases a2 <;> simp only [tupGet] at h2 <;> try (simp at h2; done)
    cases p with
    | nil => exact Iff.rfl
    | cons j p => cases j with
      | l => cases p <;> exact Iff.rfl
      | ix => exact Iff.rfl
      | r n => cases n with
        | zero => exact h o
        | succ n => exact Iff.rfl
  | succ i ih =>
    intro p a a2 v h1 h2 h o
    cases a <;> simp only [tupGet] at h1 <;> try (simp at h1; done)
    cases a2 <;> simp only [tupGet] at h2 <;> try (simp at h2; done)
    cases p with
    | nil => exact Iff.rfl
    | cons j p => cases j with
      | l => cases p with
        | nil => exact h o
        | cons k p => exact Iff.rfl
      | ix => exact Iff.rfl
      | r n => cases n with
        | zero => exact ih h1 h2 h o
        | succ n => exact Iff.rfl

theorem tupSet_comm : ∀ {i j : Nat} {a : AV}, parting (tupPt i) (tupPt j) = true → tupSet (tupSet a i) j = tupSet (tupSet a j) i := by
  intro i
  induction i with
  | zero =>
    intro j a h
    cases j with
    | zero => simp [parting, tupPt] at h
    | succ j => cases a <;> rfl
  | succ i ih =>
    intro j a h
    cases j with
    | zero => cases a <;> rfl
    | succ j =>
      cases a <;> try rfl
      simp only [tupSet]
      rw [ih h]

theorem Sub.tupSet_new {c : Nat} : ∀ {i : Nat} {a : AV}, Sub c (tupSet a i) a := by
  intro i
  induction i with
  | zero => intro a; cases a <;> first | exact .same _ | exact .pair (.none (by simp [AV.regA])) (.same _)
  | succ i ih => intro a; cases a <;> first | exact .same _ | exact .pair (.same _) ih

theorem Sub.tupSet_old {c : Nat} : ∀ {i : Nat} {a v : AV}, tupGet a i = some v → (v.regA 0).testBit c = false → Sub c a (tupSet a i) := by
  intro i
  induction i with
  | zero =>
    intro a v h hv
    cases a <;> simp only [tupGet] at h <;> try (simp at h; done)
    cases h
    exact .pair (.none hv) (.same _)
  | succ i ih =>
    intro a v h hv
    cases a <;> simp only [tupGet] at h <;> try (simp at h; done)
    exact .pair (.same _) (ih h hv)

theorem Sub.tupSet_both {c : Nat} : ∀ {i : Nat} {a a2 v : AV}, tupGet a i = some v → tupGet a2 i = some v → Sub c a2 a → Sub c (tupSet a2 i) (tupSet a i) := by
  intro i
  induction i with
  | zero =>
    intro a a2 v h1 h2 h
    cases a <;> simp only [tupGet] at h1 <;> try (simp at h1; done)
    cases a2 <;> simp only [tupGet] at h2 <;> try (simp at h2; done)
    obtain ⟨_, s2⟩ := h.parts rfl rfl
    exact .pair (.same _) s2
  | succ i ih =>
    intro a a2 v h1 h2 h
    cases a <;> simp only [tupGet] at h1 <;> try (simp at h1; done)
    cases a2 <;> simp only [tupGet] at h2 <;> try (simp at h2; done)
    obtain ⟨s1, s2⟩ := h.parts rfl rfl
    exact .pair s1 (ih h1 h2 s2)

theorem Sub.untup {c : Nat} {a a2 : AV} (h : Sub c (.tup a2) (.tup a)) : Sub c a2 a := by
  generalize e1 : AV.tup a2 = x at h
  generalize e2 : AV.tup a = y at h
  cases h with
  | same => subst e1; cases e2; exact .same _
  | none h => subst e1; exact .none h
  | pair _ _ => cases e1
  | tup h => cases e1; cases e2; exact h

/-! ### Runs -/

def Lg.has (l : Lg) (k s : Nat) : Prop := l.r.testBit (Lg.code k s) = true ∨ l.w.testBit (Lg.code k s) = true
def Lg.hasW (l : Lg) (k s : Nat) : Prop := l.w.testBit (Lg.code k s) = true

/-- One log holds another. -/
structure Lg.le (a b : Lg) : Prop where
  r : ∀ n, a.r.testBit n = true → b.r.testBit n = true
  w : ∀ n, a.w.testBit n = true → b.w.testBit n = true
  v : ∀ n, a.v.testBit n = true → b.v.testBit n = true
  sc : ∀ n, a.sc.testBit n = true → b.sc.testBit n = true
  ps : ∀ x ∈ a.ps, x ∈ b.ps
  qs : ∀ x ∈ a.qs, x ∈ b.qs
  all : a.all = true → b.all = true
  h : ∀ n, a.h.testBit n = true → b.h.testBit n = true
  hw : ∀ n, a.hw.testBit n = true → b.hw.testBit n = true

theorem Lg.le_refl (a : Lg) : a.le a := ⟨fun _ => id, fun _ => id, fun _ => id, fun _ => id, fun _ => id, fun _ => id, id, fun _ => id, fun _ => id⟩
theorem Lg.le_trans {a b c : Lg} (h : a.le b) (g : b.le c) : a.le c := ⟨fun n e => g.r n (h.r n e), fun n e => g.w n (h.w n e), fun n e => g.v n (h.v n e), fun n e => g.sc n (h.sc n e), fun n e => g.ps n (h.ps n e), fun n e => g.qs n (h.qs n e), fun e => g.all (h.all e), fun n e => g.h n (h.h n e), fun n e => g.hw n (h.hw n e)⟩
theorem Lg.le_saw (l : Lg) (k s : Nat) : l.le (l.saw k s) := ⟨fun n e => by simp [Lg.saw, Nat.testBit_or, e], fun _ => id, fun _ => id, fun _ => id, fun _ => id, fun _ => id, id, fun _ => id, fun _ => id⟩
theorem Lg.le_wrote (l : Lg) (k s m : Nat) : l.le (l.wrote k s m) := ⟨fun _ => id, fun n e => by simp [Lg.wrote, Nat.testBit_or, e], fun n e => by simp [Lg.wrote, Nat.testBit_or, e], fun _ => id, fun _ => id, fun _ => id, id, fun _ => id, fun _ => id⟩
theorem Lg.le_sawP (l : Lg) (x : Pt) : l.le (l.sawP x) := ⟨fun _ => id, fun _ => id, fun _ => id, fun _ => id, fun _ h => List.mem_cons_of_mem _ h, fun _ => id, id, fun _ => id, fun _ => id⟩
theorem Lg.le_wroteP (l : Lg) (x : Pt) (m : Nat) : l.le (l.wroteP x m) := ⟨fun _ => id, fun _ => id, fun n e => by simp [Lg.wroteP, Nat.testBit_or, e], fun _ => id, fun _ h => List.mem_cons_of_mem _ h, fun _ h => List.mem_cons_of_mem _ h, id, fun _ => id, fun _ => id⟩
theorem Lg.le_more (l : Lg) : l.le l.more := ⟨fun _ => id, fun _ => id, fun _ => id, fun _ => id, fun _ => id, fun _ => id, fun _ => rfl, fun _ => id, fun _ => id⟩
theorem Lg.le_struck (l : Lg) (c : Nat) : l.le (l.struck c) := ⟨fun _ => id, fun _ => id, fun _ => id, fun n e => by simp [Lg.struck, Nat.testBit_or, e], fun _ => id, fun _ => id, id, fun _ => id, fun _ => id⟩
theorem Lg.le_sawH (l : Lg) (s : Nat) : l.le (l.sawH s) := ⟨fun _ => id, fun _ => id, fun _ => id, fun _ => id, fun _ => id, fun _ => id, id, fun n e => by simp [Lg.sawH, Nat.testBit_or, e], fun _ => id⟩
theorem Lg.le_hdW (l : Lg) (q : Pl) : l.le (l.hdW q) := by
  unfold Lg.hdW
  split
  · exact ⟨fun _ => id, fun _ => id, fun _ => id, fun _ => id, fun _ => id, fun _ => id, id, fun _ => id, fun n e => by simp [Nat.testBit_or, e]⟩
  · exact Lg.le_refl _

def M.Run {α : Type} (C : Orc) (m : M α) (st : St) (l0 : Lg) (a : α) (st' : St) (l : Lg) : Prop := m.wpL C st l0 fun a' s l' => a' = a ∧ s = st' ∧ l' = l

theorem wpL_run {α : Type} {C : Orc} {k : α → St → Lg → Prop} (m : M α) : ∀ {st : St} {l0 : Lg}, m.wpL C st l0 k → ∃ a st' l, m.Run C st l0 a st' l ∧ k a st' l := by
  induction m with
  | pure a => intro st l0 h; exact ⟨a, st, l0, ⟨rfl, rfl, rfl⟩, h⟩
  | rd n s g ih =>
    intro st l0 h
    simp only [M.wpL, M.Run, St.getK_eq] at h ⊢
    cases hg : st.get n s with
    | none => rw [hg] at h; exact h.elim
    | some v => rw [hg] at h; exact ih v h
  | wr n s v m ih =>
    intro st l0 h
    rw [wpL_wr] at h
    obtain ⟨u, h1, h2⟩ := h
    obtain ⟨a, st', l, h3, h4⟩ := ih h2
    refine ⟨a, st', l, ?_, h4⟩
    unfold M.Run
    rw [wpL_wr]
    exact ⟨u, h1, h3⟩
  | get q g ih =>
    intro st l0 h
    simp only [M.wpL, M.Run, Pl.ptK_eq, AV.force_eq, GetP_iff] at h ⊢
    obtain ⟨s, h1, v, h2, h3⟩ := h
    obtain ⟨a, st', l, h4, h5⟩ := ih v h3
    exact ⟨a, st', l, ⟨s, h1, v, h2, h4⟩, h5⟩
  | look q g ih =>
    intro st l0 h
    simp only [M.wpL, M.Run, Pl.ptK_eq, AV.force_eq, LookP_iff] at h ⊢
    obtain ⟨s, h1, v, h2, g1, g2, h3⟩ := h
    obtain ⟨a, st', l, h4, h5⟩ := ih v h3
    exact ⟨a, st', l, ⟨s, h1, v, h2, g1, g2, h4⟩, h5⟩
  | hd s g ih =>
    intro st l0 h
    simp only [M.wpL, M.Run, St.getK_eq] at h ⊢
    cases hg : st.get 0 s with
    | none => rw [hg] at h; exact h.elim
    | some v => rw [hg] at h; exact ih _ h
  | put q u m ih =>
    intro st l0 h
    rw [wpL_put] at h
    obtain ⟨s, h1, o, g1, v, h2, o', g2, h3⟩ := h
    obtain ⟨a, st', l, h4, h5⟩ := ih h3
    refine ⟨a, st', l, ?_, h5⟩
    unfold M.Run
    rw [wpL_put]
    exact ⟨s, h1, o, g1, v, h2, o', g2, h4⟩
  | scr s b p m ih =>
    intro st l0 h
    simp only [M.wpL, M.Run] at h ⊢
    cases hc : st.clean s b p with
    | true => rw [hc] at h; exact ih h
    | false => rw [hc] at h; exact ih h
  | ext t i g ih =>
    intro st l0 h
    rw [wpL_ext] at h
    obtain ⟨s, h1, b, h2, v, h3, h4⟩ := h
    obtain ⟨a, st', l, h5, h6⟩ := ih v h4
    refine ⟨a, st', l, ?_, h6⟩
    unfold M.Run
    rw [wpL_ext]
    exact ⟨s, h1, b, h2, v, h3, h5⟩
  | grd c m ih => intro st l0 h; obtain ⟨a, st', l, h1, h2⟩ := ih h.2; exact ⟨a, st', l, ⟨h.1, h1⟩, h2⟩
  | br b x y ihx ihy =>
    intro st l0 h
    cases b
    · exact ihy h
    · exact ihx h
  | call n as z g ih => intro st l0 h; obtain ⟨r, h1, h2, h3⟩ := h; obtain ⟨a, st', l, h4, h5⟩ := ih r h3; exact ⟨a, st', l, ⟨r, h1, h2, h4⟩, h5⟩
  | inl n as g ih => intro st l0 h; obtain ⟨r, s1, l1, h1, h3⟩ := h; rw [St.forceK_eq, AV.force_eq] at h3; obtain ⟨a, st', l, h4, h5⟩ := ih r h3; exact ⟨a, st', l, ⟨r, s1, l1, h1, by rw [St.forceK_eq, AV.force_eq]; exact h4⟩, h5⟩
  | fail => intro st l0 h; exact h.elim

theorem run_wp {α : Type} {C : Orc} (m : M α) : ∀ {st : St} {l0 : Lg} {a : α} {st' : St} {l : Lg}, m.Run C st l0 a st' l → m.wp C st fun a' s => a' = a ∧ s = st' := by
  induction m with
  | pure a => intro st l0 a' st' l h; exact ⟨h.1, h.2.1⟩
  | rd n s g ih =>
    intro st l0 a st' l h
    simp only [M.wpL, M.Run, M.wp, St.getK_eq] at h ⊢
    cases hg : st.get n s with
    | none => rw [hg] at h; exact h.elim
    | some v => rw [hg] at h; exact ih v h
  | wr n s v m ih =>
    intro st l0 a st' l h
    unfold M.Run at h
    rw [wpL_wr] at h
    obtain ⟨u, h1, h2⟩ := h
    rw [M.wp_wr]
    exact ⟨⟨u, h1⟩, ih h2⟩
  | get q g ih =>
    intro st l0 a st' l h
    simp only [M.wpL, M.Run, M.wp, Pl.ptK_eq, AV.force_eq, GetP_iff] at h ⊢
    obtain ⟨s, h1, v, h2, h3⟩ := h
    exact ⟨s, h1, v, h2, ih v h3⟩
  | look q g ih =>
    intro st l0 a st' l h
    simp only [M.wpL, M.Run, M.wp, Pl.ptK_eq, AV.force_eq, LookP_iff] at h ⊢
    obtain ⟨s, h1, v, h2, g1, g2, h3⟩ := h
    exact ⟨s, h1, v, h2, g1, g2, ih v h3⟩
  | hd s g ih =>
    intro st l0 a st' l h
    simp only [M.wpL, M.Run, M.wp, St.getK_eq] at h ⊢
    cases hg : st.get 0 s with
    | none => rw [hg] at h; exact h.elim
    | some v => rw [hg] at h; exact ih _ h
  | put q u m ih =>
    intro st l0 a st' l h
    unfold M.Run at h
    rw [wpL_put] at h
    obtain ⟨s, h1, o, _, v, h2, o', _, h3⟩ := h
    simp only [M.wp, PutP_iff]
    exact ⟨s, h1, v, h2, ih h3⟩
  | scr s b p m ih =>
    intro st l0 a st' l h
    simp only [M.wpL, M.Run] at h
    cases hc : st.clean s b p with
    | true =>
      rw [hc] at h
      have := ih h
      show m.wp C (st.scrub s b p) _
      rw [St.clean_scrub hc]; exact this
    | false => rw [hc] at h; exact ih h
  | ext t i g ih =>
    intro st l0 a st' l h
    unfold M.Run at h
    rw [wpL_ext] at h
    obtain ⟨s, h1, b, h2, v, h3, h4⟩ := h
    exact ExtP_iff.2 ⟨s, h1, b, h2, v, h3, ih v h4⟩
  | grd c m ih => intro st l0 a st' l h; exact ⟨h.1, ih h.2⟩
  | br b x y ihx ihy =>
    intro st l0 a st' l h
    cases b
    · exact ihy h
    · exact ihx h
  | call n as z g ih => intro st l0 a st' l h; obtain ⟨r, h1, h2, h3⟩ := h; exact ⟨r, h1, h2, ih r h3⟩
  | inl n as g ih =>
    intro st l0 a st' l h
    obtain ⟨r, s1, l1, h1, h3⟩ := h
    rw [St.forceK_eq, AV.force_eq] at h3
    have hic : C.ic n as st r s1 := by
      rcases h1 with ⟨h1, _⟩ | ⟨rs, k, t, b, u, hf, hb, rfl, _⟩
      · exact h1
      · exact hf.2 st hb fun _ _ => rfl
    exact ⟨r, s1, hic, by rw [St.forceK_eq, AV.force_eq]; exact ih r h3⟩
  | fail => intro st l0 a st' l h; exact h.elim

/-! ### What a run does to the slots -/

inductive Eff where
  | whole (k s : Nat) (v : Slot)
  | part (x : Pt) (u : AV)
  | tk (t i : Nat)
def Eff.k : Eff → Nat
  | .whole k _ _ => k
  | .part x _ => x.k
  | .tk _ _ => 0
def Eff.s : Eff → Nat
  | .whole _ s _ => s
  | .part x _ => x.s
  | .tk t _ => t
/-- What a bundle keeps. -/
def tkS (i : Nat) (sl : Slot) : Slot :=
  match sl with
  | ⟨.tup a, b, fv, fb⟩ => ⟨.tup (tupSet a i), b, fv, fb⟩
  | sl => sl
def Eff.f : Eff → Slot → Slot
  | .whole _ _ v, _ => v
  | .part x u, sl => sl.put x.bx (updLR u x.p (sl.at x.bx))
  | .tk _ i, sl => tkS i sl

def St.mod (st : St) (k s : Nat) (f : Slot → Slot) : St := st.modify k fun r => r.modify s f
def app (ws : List Eff) (st : St) : St := ws.foldl (fun st e => st.mod e.k e.s e.f) st

theorem St.set_mod (st : St) (k s : Nat) (v : Slot) : st.set k s v = st.mod k s fun _ => v := by
  unfold St.set St.mod
  congr 1
  funext f
  apply List.ext_getElem?
  intro i
  rw [List.getElem?_modify, List.getElem?_set]
  by_cases h : s = i
  · subst h
    by_cases h2 : s < f.length
    · simp [h2]
    · simp [h2]
  · simp only [if_neg h]; cases f[i]? <;> rfl

theorem mod_of_get {st : St} {k s : Nat} {u : Slot} {f : Slot → Slot} (h : st.get k s = some u) : st.set k s (f u) = st.mod k s f := by
  rw [St.set_mod]
  unfold St.mod
  apply List.ext_getElem?
  intro i
  rw [List.getElem?_modify, List.getElem?_modify]
  by_cases hi : k = i
  · subst hi
    simp only [St.get] at h
    cases hr : st[k]? with
    | none => rfl
    | some r =>
      rw [hr] at h
      have h : r[s]? = some u := h
      simp only [ite_true, eq_self, Option.map_eq_map, Option.map_some, Option.some.injEq]
      apply List.ext_getElem?
      intro j
      rw [List.getElem?_modify, List.getElem?_modify]
      by_cases hj : s = j
      · subst hj; rw [h]; rfl
      · simp only [if_neg hj]
  · simp only [if_neg hi]

theorem put_at (s : Slot) (bx : Bool) : s.put bx (s.at bx) = s := by cases bx <;> rfl

theorem get_mod (st : St) (k s : Nat) (f : Slot → Slot) (k' s' : Nat) : (st.mod k s f).get k' s' = if k' = k ∧ s' = s then (st.get k s).map f else st.get k' s' := by
  simp only [St.get, St.mod, List.getElem?_modify]
  by_cases h1 : k = k'
  · subst h1
    simp only [if_pos rfl, true_and]
    cases st[k]? with
    | none => simp
    | some r =>
      show (List.modify r s f)[s']? = if s' = s then Option.map f r[s]? else r[s']?
      rw [List.getElem?_modify]
      by_cases h2 : s = s'
      · subst h2; cases r[s]? <;> simp
      · rw [if_neg (fun e : s' = s => h2 e.symm)]; cases r[s']? <;> simp [h2]
  · simp only [if_neg h1]
    rw [if_neg (fun e => h1 e.1.symm)]
    cases st[k']? <;> simp

theorem mod_comm (st : St) {k s k' s' : Nat} {f g : Slot → Slot} (h : ¬ (k = k' ∧ s = s') ∨ ∀ v, f (g v) = g (f v)) : (st.mod k s f).mod k' s' g = (st.mod k' s' g).mod k s f := by
  apply List.ext_getElem?
  intro i
  simp only [St.mod, List.getElem?_modify]
  by_cases h1 : k = i <;> by_cases h2 : k' = i
  · subst h1; subst h2
    cases st[k']? with
    | none => simp
    | some r =>
      simp only [ite_true, eq_self, Option.map_eq_map, Option.map_some, Option.some.injEq]
      apply List.ext_getElem?
      intro j
      simp only [List.getElem?_modify]
      by_cases h3 : s = j <;> by_cases h4 : s' = j
      · subst h3; subst h4
        rcases h with h | h
        · exact absurd ⟨rfl, rfl⟩ h
        · cases r[s']? <;> simp [h]
      all_goals (cases r[j]? <;> simp [h3, h4])
  all_goals (cases st[i]? <;> simp [h1, h2])

def Eff.ok (l : Lg) : Eff → Prop
  | .whole k s _ => l.hasW k s
  | .part x _ => x ∈ l.qs
  | .tk t i => tupAt t i ∈ l.qs

/-- Two states agree on a part. -/
def PEq (x : Pt) (st st2 : St) : Prop :=
  (st.get x.k x.s = none ↔ st2.get x.k x.s = none) ∧ ∀ sl sl2, st.get x.k x.s = some sl → st2.get x.k x.s = some sl2 → sl2.flag x.bx = sl.flag x.bx ∧ ∀ o, (PartP x.p (sl.at x.bx) (fun u => u = o) ↔ PartP x.p (sl2.at x.bx) (fun u => u = o)) ∧ (TupT x.p (sl.at x.bx) o ↔ TupT x.p (sl2.at x.bx) o)

/-- The first state's slots hold no views of a region but where the other one's do. -/
def SubS (c : Nat) (st2 st : St) : Prop := ∀ k s sl2, st2.get k s = some sl2 → ∃ sl, st.get k s = some sl ∧ Sub c sl2.v sl.v ∧ Sub c sl2.b sl.b

theorem SubS.refl (c : Nat) (st : St) : SubS c st st := fun k s sl h => ⟨sl, h, .same _, .same _⟩
theorem SubS.trans {c : Nat} {a b d : St} (h : SubS c a b) (g : SubS c b d) : SubS c a d := by
  intro k s sl h1
  obtain ⟨sl1, h2, h3, h4⟩ := h k s sl h1
  obtain ⟨sl2, h5, h6, h7⟩ := g k s sl1 h2
  exact ⟨sl2, h5, h3.trans h6, h4.trans h7⟩

/-- Two states agree on a slot's header. -/
def HEq2 (s : Nat) (st st2 : St) : Prop := (st.get 0 s = none ↔ st2.get 0 s = none) ∧ ∀ sl sl2, st.get 0 s = some sl → st2.get 0 s = some sl2 → sl2.v.hdr = sl.v.hdr ∧ sl2.fv = sl.fv
theorem HEq2.refl (s : Nat) (st : St) : HEq2 s st st := ⟨Iff.rfl, fun a b h1 h2 => by rw [h1] at h2; cases h2; exact ⟨rfl, rfl⟩⟩
theorem HEq2.symm {s : Nat} {a b : St} (h : HEq2 s a b) : HEq2 s b a := ⟨h.1.symm, fun x y h1 h2 => ⟨(h.2 y x h2 h1).1.symm, (h.2 y x h2 h1).2.symm⟩⟩
theorem HEq2.trans {s : Nat} {a b c : St} (h : HEq2 s a b) (g : HEq2 s b c) : HEq2 s a c := by
  refine ⟨h.1.trans g.1, fun x z h1 h2 => ?_⟩
  cases e : b.get 0 s with
  | none => have := h.1.2 e; rw [h1] at this; cases this
  | some y => exact ⟨(g.2 y z e h2).1.trans (h.2 x y h1 e).1, (g.2 y z e h2).2.trans (h.2 x y h1 e).2⟩
theorem hdr_eq {a b : Slot} (h : a.v.hdr = b.v.hdr ∧ a.fv = b.fv) : a.hdr = b.hdr := by unfold Slot.hdr; rw [h.1, h.2]

structure Agree (l : Lg) (st st2 : St) : Prop where
  sl : ∀ k s, l.has k s → st2.get k s = st.get k s
  pt : ∀ x ∈ l.ps, PEq x st st2
  sb : ∀ c, l.sc.testBit c = true → SubS c st2 st
  hd : ∀ s, l.h.testBit (Lg.code 0 s) = true → HEq2 s st st2

theorem at_put (s : Slot) (bx : Bool) (v : AV) : (s.put bx v).at bx = v := by cases bx <;> rfl
theorem at_put_ne (s : Slot) {bx bx' : Bool} (h : bx ≠ bx') (v : AV) : (s.put bx v).at bx' = s.at bx' := by cases bx <;> cases bx' <;> first | rfl | exact absurd rfl h
theorem flag_put (s : Slot) (bx bx' : Bool) (v : AV) : (s.put bx v).flag bx' = s.flag bx' := by cases bx <;> cases bx' <;> rfl
theorem put_sub {c : Nat} {s s2 : Slot} {bx : Bool} {v v2 : AV} (hv : Sub c s2.v s.v) (hb : Sub c s2.b s.b) (h : Sub c v2 v) : Sub c (s2.put bx v2).v (s.put bx v).v ∧ Sub c (s2.put bx v2).b (s.put bx v).b := by
  cases bx
  · exact ⟨h, hb⟩
  · exact ⟨hv, h⟩
theorem at_sub {c : Nat} {s s2 : Slot} (bx : Bool) (hv : Sub c s2.v s.v) (hb : Sub c s2.b s.b) : Sub c (s2.at bx) (s.at bx) := by
  cases bx
  · exact hv
  · exact hb

theorem Agree.whole {l : Lg} {st st2 : St} (h : Agree l st st2) {n s : Nat} {u v : Slot} (hw : l.hasW n s) (hg : st.get n s = some u) : st2.get n s = some u ∧ Agree l (st.mod n s fun _ => v) (st2.mod n s fun _ => v) := by
  have hg2 : st2.get n s = some u := by rw [h.sl n s (.inr hw)]; exact hg
  refine ⟨hg2, ?_, ?_, ?_, ?_⟩
  rotate_left 3
  · intro t ht
    have hp := h.hd t ht
    unfold HEq2 at hp ⊢
    rw [get_mod, get_mod, hg, hg2]
    split
    · exact ⟨by simp, fun a b h1 h2 => by cases h1; cases h2; exact ⟨rfl, rfl⟩⟩
    · exact hp
  · intro k t ht
    rw [get_mod, get_mod, hg2, hg, h.sl k t ht]
  · intro x hx
    unfold PEq
    rw [get_mod, get_mod, hg, hg2]
    by_cases e : x.k = n ∧ x.s = s
    · simp only [if_pos e, Option.map_some]
      exact ⟨by simp, fun sl sl2 h1 h2 => by cases h1; cases h2; exact ⟨rfl, fun _ => ⟨Iff.rfl, Iff.rfl⟩⟩⟩
    · simp only [if_neg e]
      exact h.pt x hx
  · intro c hc k t sl2
    rw [get_mod, get_mod, hg, hg2]
    split
    · intro e; cases e; exact ⟨v, rfl, .same _, .same _⟩
    · exact h.sb c hc k t sl2

theorem updLR_hdr {u o : AV} {p : List Stp} {a a2 : AV} (hp : PartP p a (fun v => v = o)) (hp2 : PartP p a2 (fun v => v = o)) (hq : a2.hdr = a.hdr) : (updLR u p a2).hdr = (updLR u p a).hdr := by
  cases p with
  | nil =>
    have e1 : a = o := hp
    have e2 : a2 = o := hp2
    rw [e1, e2]
  | cons i p =>
    cases i with
    | l =>
      obtain ⟨x, y, e, _⟩ := part_l.1 hp
      obtain ⟨x2, y2, e2, _⟩ := part_l.1 hp2
      simp only [updLR, e, e2]; rfl
    | r n =>
      obtain ⟨x, y, e, _⟩ := part_r.1 hp
      obtain ⟨x2, y2, e2, _⟩ := part_r.1 hp2
      simp only [updLR, e, e2]; rfl
    | ix j z => exact hq
theorem part_hdr {x : Pt} {u o : AV} {sl sl2 : Slot} (hp : PartP x.p (sl.at x.bx) (fun v => v = o)) (hp2 : PartP x.p (sl2.at x.bx) (fun v => v = o)) (hq : sl2.v.hdr = sl.v.hdr ∧ sl2.fv = sl.fv) :
    ((Eff.part x u).f sl2).v.hdr = ((Eff.part x u).f sl).v.hdr ∧ ((Eff.part x u).f sl2).fv = ((Eff.part x u).f sl).fv := by
  simp only [Eff.f]
  cases e : x.bx with
  | true => exact hq
  | false =>
    rw [e] at hp hp2
    exact ⟨updLR_hdr hp hp2 hq.1, hq.2⟩
theorem upd_hdr {u w : AV} {p : List Stp} {a : AV} (hne : p ≠ []) (h : UpdP u p a (fun x => x = w)) : w.hdr = a.hdr := by
  cases p with
  | nil => exact absurd rfl hne
  | cons i p =>
    cases i with
    | l =>
      obtain ⟨x, y, e, h⟩ := upd_l.1 h
      obtain ⟨z, _, rfl⟩ := UpdP_iff.1 h
      cases a with
      | pair a b => rfl
      | d s z => cases s <;> first | rfl | (simp [AV.two] at e)
      | _ => simp [AV.two] at e
    | r n =>
      obtain ⟨x, y, e, _, h⟩ := upd_r.1 h
      obtain ⟨z, _, rfl⟩ := UpdP_iff.1 h
      cases a with
      | pair a b => rfl
      | d s z => cases s <;> first | rfl | (simp [AV.two] at e)
      | _ => simp [AV.two] at e
    | ix j z =>
      have elem : ∀ {e : Sh} {o : Ow} {l : List e.den} {i : Nat} {b : AV}, putElemP e o l i (fun x => x = w) b → w.hdr = some e := by
        intro e o l i b h
        unfold putElemP at h
        split at h
        · split at h
          · subst h; rfl
          · cases hb : b.solid <;> rw [hb] at h
            · exact h.elim
            · have h : AV.hol e o l i b = w := h
              subst h; rfl
        · cases hb : b.solid <;> rw [hb] at h
          · exact h.elim
          · have h : AV.hol e o l i b = w := h
            subst h; rfl
      cases a with
      | own e o l =>
        simp only [UpdP] at h
        split at h
        · obtain ⟨_, h⟩ := h
          obtain ⟨b', _, h⟩ := UpdP_iff.1 h
          exact elem h
        · exact h.elim
      | hol e o l k b =>
        simp only [UpdP] at h
        split at h
        · obtain ⟨_, h⟩ := h
          obtain ⟨b', _, h⟩ := UpdP_iff.1 h
          exact elem h
        · exact h.elim
      | _ => simp [UpdP] at h
theorem Agree.part {l : Lg} {st st2 : St} (h : Agree l st st2) {x : Pt} {u o : AV} {sl sl2 : Slot} (hg : st.get x.k x.s = some sl) (hg2 : st2.get x.k x.s = some sl2) (hp : PartP x.p (sl.at x.bx) (fun v => v = o)) (hp2 : PartP x.p (sl2.at x.bx) (fun v => v = o)) :
    Agree l (st.mod x.k x.s (Eff.part x u).f) (st2.mod x.k x.s (Eff.part x u).f) := by
  refine ⟨?_, ?_, ?_, ?_⟩
  rotate_left 3
  · intro t ht
    have hq := h.hd t ht
    unfold HEq2 at hq ⊢
    rw [get_mod, get_mod, hg, hg2]
    split
    · rename_i e
      rw [e.1, e.2] at hq
      have hq := hq.2 sl sl2 hg hg2
      refine ⟨by simp, fun a b h1 h2 => ?_⟩
      cases h1; cases h2
      exact part_hdr hp hp2 hq
    · exact hq
  · intro k t ht
    rw [get_mod, get_mod, h.sl k t ht]
    split
    · rename_i e
      rw [e.1, e.2] at ht
      rw [h.sl _ _ ht]
    · rfl
  · intro y hy
    have hpy := h.pt y hy
    unfold PEq at hpy ⊢
    rw [get_mod, get_mod, hg, hg2]
    by_cases e : y.k = x.k ∧ y.s = x.s
    · simp only [if_pos e, Option.map_some]
      refine ⟨by simp, fun a b h1 h2 => ?_⟩
      cases h1; cases h2
      rw [e.1, e.2] at hpy
      obtain ⟨f1, f2⟩ := hpy.2 sl sl2 hg hg2
      simp only [Eff.f]
      refine ⟨by rw [flag_put, flag_put]; exact f1, ?_⟩
      by_cases eb : x.bx = y.bx
      · rw [← eb, at_put, at_put]
        rw [← eb] at f2
        refine fun o' => ⟨part_upd_both hp hp2 (fun o => (f2 o).1) o', ?_⟩
        by_cases hx : x.p = []
        · rw [hx] at hp hp2 ⊢
          have e1 : sl.at x.bx = o := hp
          have e2 : sl2.at x.bx = o := hp2
          rw [e1, e2]
        · rw [tupT_upd hx, tupT_upd hx]; exact (f2 o').2
      · rw [at_put_ne _ eb, at_put_ne _ eb]; exact f2
    · simp only [if_neg e]
      exact hpy
  · intro c hc k t a2
    rw [get_mod, get_mod, hg, hg2]
    split
    · intro e; cases e
      obtain ⟨sl', g1, g2, g3⟩ := h.sb c hc x.k x.s sl2 hg2
      rw [hg] at g1; cases g1
      exact ⟨_, rfl, put_sub g2 g3 (Sub.upd_both hp hp2 (at_sub _ g2 g3))⟩
    · exact h.sb c hc k t a2

theorem tkS_eq {sl : Slot} {a : AV} {i : Nat} (h : sl.v = .tup a) : tkS i sl = { sl with v := .tup (tupSet a i) } := by
  obtain ⟨v, b, fv, fb⟩ := sl
  have h : v = .tup a := h
  subst h; rfl

theorem Agree.take {l : Lg} {st st2 : St} (h : Agree l st st2) {t i : Nat} {a a2 v : AV} {sl sl2 : Slot} (hg : st.get 0 t = some sl) (hg2 : st2.get 0 t = some sl2) (ha : sl.v = .tup a) (ha2 : sl2.v = .tup a2) (hv : tupGet a i = some v) (hv2 : tupGet a2 i = some v) :
    Agree l (st.mod 0 t (tkS i)) (st2.mod 0 t (tkS i)) := by
  refine ⟨?_, ?_, ?_, ?_⟩
  rotate_left 3
  · intro n ht
    have hq := h.hd n ht
    unfold HEq2 at hq ⊢
    rw [get_mod, get_mod, hg, hg2]
    split
    · refine ⟨by simp, fun x y h1 h2 => ?_⟩
      cases h1; cases h2
      rename_i e
      rw [e.2] at hq
      have hq := hq.2 sl sl2 hg hg2
      rw [tkS_eq ha, tkS_eq ha2]
      exact ⟨rfl, hq.2⟩
    · exact hq
  · intro k n ht
    rw [get_mod, get_mod, h.sl k n ht]
    split
    · rename_i e
      rw [e.1, e.2] at ht
      rw [h.sl _ _ ht]
    · rfl
  · intro y hy
    have hpy := h.pt y hy
    unfold PEq at hpy ⊢
    rw [get_mod, get_mod, hg, hg2]
    by_cases e : y.k = 0 ∧ y.s = t
    · simp only [if_pos e, Option.map_some]
      refine ⟨by simp, fun u w h1 h2 => ?_⟩
      cases h1; cases h2
      rw [e.1, e.2] at hpy
      obtain ⟨f1, f2⟩ := hpy.2 sl sl2 hg hg2
      rw [tkS_eq ha, tkS_eq ha2]
      cases eb : y.bx with
      | true => rw [eb] at f1 f2; exact ⟨f1, f2⟩
      | false =>
        rw [eb] at f1 f2
        refine ⟨f1, fun o => ?_⟩
        have f2 : ∀ o, (PartP y.p sl.v (fun u => u = o) ↔ PartP y.p sl2.v (fun u => u = o)) ∧ (TupT y.p sl.v o ↔ TupT y.p sl2.v o) := f2
        rw [ha, ha2] at f2
        show (PartP y.p (.tup (tupSet a i)) (fun u => u = o) ↔ PartP y.p (.tup (tupSet a2 i)) (fun u => u = o)) ∧ (TupQ y.p (tupSet a i) o ↔ TupQ y.p (tupSet a2 i) o)
        refine ⟨?_, tupQ_both hv hv2 (fun o => (f2 o).2) o⟩
        by_cases hp : y.p = []
        · rw [hp] at f2 ⊢
          have : AV.tup a2 = .tup a := (f2 (.tup a)).1.1 rfl
          cases this
          exact Iff.rfl
        · exact ⟨fun g => absurd g (part_tup hp), fun g => absurd g (part_tup hp)⟩
    · simp only [if_neg e]
      exact hpy
  · intro c hc k n w
    rw [get_mod, get_mod, hg, hg2]
    split
    · intro e; cases e
      obtain ⟨sl', g1, g2, g3⟩ := h.sb c hc 0 t sl2 hg2
      rw [hg] at g1; cases g1
      rw [ha, ha2] at g2
      refine ⟨_, rfl, ?_⟩
      rw [tkS_eq ha, tkS_eq ha2]
      exact ⟨.tup (Sub.tupSet_both hv hv2 g2.untup), g3⟩
    · exact h.sb c hc k n w

theorem clean_iff {s : Nat} {bx : Bool} {p : List Stp} {st : St} : st.clean s bx p = true ↔ ∀ n sl, st.get 0 n = some sl → sl.v.clean ⟨0, s, bx⟩ p = true ∧ sl.b.clean ⟨0, s, bx⟩ p = true := by
  cases st with
  | nil => simp [St.clean, St.get]
  | cons f o =>
    have key : ∀ {f : Frm}, Frm.clean ⟨0, s, bx⟩ p f = true ↔ ∀ (n : Nat) (sl : Slot), f[n]? = some sl → sl.v.clean ⟨0, s, bx⟩ p = true ∧ sl.b.clean ⟨0, s, bx⟩ p = true := by
      intro f
      induction f with
      | nil => simp [Frm.clean]
      | cons a f ih =>
        simp only [Frm.clean, Bool.and_eq_true, ih]
        constructor
        · rintro ⟨h1, h2⟩ n sl hn
          cases n with
          | zero => simp at hn; subst hn; exact h1
          | succ n => exact h2 n sl (by simpa using hn)
        · intro h
          exact ⟨h 0 a rfl, fun n sl hn => h (n + 1) sl (by simpa using hn)⟩
    simpa [St.clean, St.get] using key


theorem le_bit {l0 l : Lg} (hl : l.all = false) (hle : l0.le l) : l0.all = false := by
  cases e : l0.all with
  | false => rfl
  | true => rw [hle.all e] at hl; simp at hl
theorem saw_has {l0 l : Lg} {n s : Nat} (hle : (l0.saw n s).le l) : l.has n s := .inl (hle.r _ (by simp [Lg.saw, Nat.testBit_or, Nat.testBit_two_pow]))
theorem wrote_has {l0 l : Lg} {n s m : Nat} (hle : (l0.wrote n s m).le l) : l.hasW n s ∧ ∀ c, l.v.testBit c = false → m.testBit c = false :=
  ⟨hle.w _ (by simp [Lg.wrote, Nat.testBit_or, Nat.testBit_two_pow]), fun c e => by
    cases h : m.testBit c with
    | false => rfl
    | true => rw [hle.v c (by simp [Lg.wrote, Nat.testBit_or, h])] at e; simp at e⟩
theorem sawP_has {l0 l : Lg} {x : Pt} (hle : (l0.sawP x).le l) : x ∈ l.ps := hle.ps _ List.mem_cons_self
theorem wroteP_has {l0 l : Lg} {x : Pt} {m : Nat} (hle : (l0.wroteP x m).le l) : x ∈ l.ps ∧ x ∈ l.qs ∧ ∀ c, l.v.testBit c = false → m.testBit c = false :=
  ⟨hle.ps _ List.mem_cons_self, hle.qs _ List.mem_cons_self, fun c e => by
    cases h : m.testBit c with
    | false => rfl
    | true => rw [hle.v c (by simp [Lg.wroteP, Nat.testBit_or, h])] at e; simp at e⟩

theorem hdW_ps (l : Lg) (q : Pl) : (l.hdW q).ps = l.ps ∧ (l.hdW q).qs = l.qs ∧ (l.hdW q).v = l.v := by
  unfold Lg.hdW; split <;> exact ⟨rfl, rfl, rfl⟩
theorem sawH_has {l0 l : Lg} {s : Nat} (hle : (l0.sawH s).le l) : l.h.testBit (Lg.code 0 s) = true := hle.h _ (by simp [Lg.sawH, Nat.testBit_or, Nat.testBit_two_pow])

/-- What a place finds is told by the part that it lies in. -/
theorem PEq.get {q : Pl} {st st2 : St} {s : Slot} {v : AV} (h : PEq q.pt st st2) (hg : st.get q.r.k q.r.s = some s) (hp : PartP q.p.reverse (s.at q.r.bx) (fun u => u = v)) :
    ∃ s2, st2.get q.r.k q.r.s = some s2 ∧ PartP q.p.reverse (s2.at q.r.bx) (fun u => u = v) ∧ s2.flag q.r.bx = s.flag q.r.bx := by
  cases hg2 : st2.get q.r.k q.r.s with
  | none => have := h.1.2 hg2; rw [show st.get q.pt.k q.pt.s = some s from hg] at this; simp at this
  | some s2 =>
    obtain ⟨h1, h2⟩ := h.2 s s2 hg hg2
    refine ⟨s2, rfl, ?_, h1⟩
    obtain ⟨post, e, _⟩ := lrs_spec q.p []
    rw [List.append_nil] at e
    rw [e, part_app] at hp ⊢
    obtain ⟨o, g1, g2⟩ := hp
    exact ⟨o, (h2 o).1.1 g1, g2⟩

/-- What a run needs of the state is what its log tells. -/
theorem sawL_le : ∀ (rs : List Nat) (l : Lg), l.le (l.sawL rs) := by
  intro rs
  induction rs with
  | nil => intro l; exact Lg.le_refl _
  | cons s rs ih => intro l; exact Lg.le_trans (Lg.le_saw l 0 s) (ih _)
theorem le_sawL {l : Lg} : ∀ {rs : List Nat} {l0 : Lg}, (l0.sawL rs).le l → l0.le l ∧ ∀ s ∈ rs, l.has 0 s := by
  intro rs
  induction rs with
  | nil => intro l0 h; exact ⟨h, fun s hs => by simp at hs⟩
  | cons s rs ih =>
    intro l0 h
    obtain ⟨h1, h2⟩ := ih (l0 := l0.saw 0 s) h
    refine ⟨Lg.le_trans (Lg.le_saw l0 0 s) h1, fun x hx => ?_⟩
    rcases List.mem_cons.1 hx with rfl | hx
    · exact saw_has h1
    · exact h2 x hx
theorem sawL_same : ∀ (rs : List Nat) (l : Lg), (l.sawL rs).ps = l.ps ∧ (l.sawL rs).qs = l.qs := by
  intro rs
  induction rs with
  | nil => intro l; exact ⟨rfl, rfl⟩
  | cons s rs ih => intro l; exact ih _

theorem run_frame {α : Type} {C : Orc} (m : M α) : ∀ {st : St} {l0 : Lg} {a : α} {st' : St} {l : Lg}, m.Run C st l0 a st' l → l.all = false →
    l0.le l ∧ ∃ ws : List Eff, st' = app ws st ∧ (∀ e ∈ ws, e.ok l) ∧ (∀ c, l.v.testBit c = false → SubS c st' st ∧ SubS c st st') ∧
      ∀ st2 : St, Agree l st st2 → m.Run C st2 l0 a (app ws st2) l := by
  induction m with
  | pure a =>
    intro st l0 a' st' l h hl
    obtain ⟨rfl, rfl, rfl⟩ := h
    exact ⟨Lg.le_refl _, [], rfl, (fun u hu => by simp at hu), (fun c _ => ⟨.refl _ _, .refl _ _⟩), fun st2 _ => ⟨rfl, rfl, rfl⟩⟩
  | rd n s g ih =>
    intro st l0 a st' l h hl
    simp only [M.wpL, M.Run, St.getK_eq] at h
    cases hg : st.get n s with
    | none => rw [hg] at h; exact h.elim
    | some v =>
      rw [hg] at h
      obtain ⟨hle, ws, h1, h2, h3, h5⟩ := ih v h hl
      refine ⟨Lg.le_trans (Lg.le_saw _ _ _) hle, ws, h1, h2, h3, fun st2 hs => ?_⟩
      simp only [M.wpL, M.Run, St.getK_eq]
      rw [hs.sl n s (saw_has hle), hg]
      exact h5 st2 hs
  | wr n s v m ih =>
    intro st l0 a st' l h hl
    unfold M.Run at h
    rw [wpL_wr, ] at h
    obtain ⟨u, hg, h⟩ := h
    rw [St.set_mod] at h
    obtain ⟨hle, ws, h1, h2, h3, h5⟩ := ih h hl
    obtain ⟨hw, hv⟩ := wrote_has hle
    refine ⟨Lg.le_trans (Lg.le_wrote _ _ _ _) hle, .whole n s v :: ws, h1, ?_, ?_, fun st2 hs => ?_⟩
    · intro x hx
      rcases List.mem_cons.1 hx with rfl | hx
      · exact hw
      · exact h2 x hx
    · intro c hc
      obtain ⟨g1, g2⟩ := h3 c hc
      have hno := hv c hc
      rw [slot_regA_or] at hno
      simp only [Bool.or_eq_false_iff] at hno
      have spl : ∀ {t : Slot}, (t.regA 0).testBit c = false → (t.v.regA 0).testBit c = false ∧ (t.b.regA 0).testBit c = false := by
        intro t ht
        simp only [Slot.regA] at ht
        rw [regA_or] at ht
        simpa using ht
      have e1 : SubS c (st.mod n s fun _ => v) st := by
        intro k t sl2 h
        rw [get_mod, hg] at h
        split at h
        · rename_i e; cases h; rw [e.1, e.2]; exact ⟨u, hg, .none (spl hno.2).1, .none (spl hno.2).2⟩
        · exact ⟨sl2, h, .same _, .same _⟩
      have e2 : SubS c st (st.mod n s fun _ => v) := by
        intro k t sl2 h
        rw [get_mod, hg]
        split
        · rename_i e; rw [e.1, e.2, hg] at h; cases h; exact ⟨v, rfl, .none (spl hno.1).1, .none (spl hno.1).2⟩
        · exact ⟨sl2, h, .same _, .same _⟩
      exact ⟨g1.trans e1, e2.trans g2⟩
    · obtain ⟨hg2, hs'⟩ := hs.whole (v := v) hw hg
      unfold M.Run
      rw [wpL_wr]
      refine ⟨u, hg2, ?_⟩
      rw [St.set_mod]
      exact h5 _ hs'
  | get q g ih =>
    intro st l0 a st' l h hl
    simp only [M.wpL, M.Run, Pl.ptK_eq, AV.force_eq, GetP_iff] at h
    obtain ⟨s0, g1, v, g2, g3⟩ := h
    obtain ⟨hle, ws, h1, h2, h3, h5⟩ := ih v g3 hl
    refine ⟨Lg.le_trans (Lg.le_sawP _ _) hle, ws, h1, h2, h3, fun st2 hs => ?_⟩
    obtain ⟨s2, k1, k2, _⟩ := (hs.pt _ (sawP_has hle)).get g1 g2
    simp only [M.wpL, M.Run, Pl.ptK_eq, AV.force_eq, GetP_iff]
    exact ⟨s2, k1, v, k2, h5 st2 hs⟩
  | look q g ih =>
    intro st l0 a st' l h hl
    simp only [M.wpL, M.Run, Pl.ptK_eq, AV.force_eq, LookP_iff] at h
    obtain ⟨s0, g1, v, g2, e1, e2, g3⟩ := h
    obtain ⟨hle, ws, h1, h2, h3, h5⟩ := ih v g3 hl
    refine ⟨Lg.le_trans (Lg.le_sawP _ _) hle, ws, h1, h2, h3, fun st2 hs => ?_⟩
    obtain ⟨s2, k1, k2, k3⟩ := (hs.pt _ (sawP_has hle)).get g1 g2
    simp only [M.wpL, M.Run, Pl.ptK_eq, AV.force_eq, LookP_iff]
    exact ⟨s2, k1, v, k2, e1, by rw [k3]; exact e2, h5 st2 hs⟩
  | hd s g ih =>
    intro st l0 a st' l h hl
    simp only [M.wpL, M.Run, St.getK_eq] at h
    cases hg : st.get 0 s with
    | none => rw [hg] at h; exact h.elim
    | some v =>
      rw [hg] at h
      obtain ⟨hle, ws, h1, h2, h3, h5⟩ := ih _ h hl
      refine ⟨Lg.le_trans (Lg.le_sawH _ _) hle, ws, h1, h2, h3, fun st2 hs => ?_⟩
      have hh := hs.hd s (sawH_has hle)
      simp only [M.wpL, M.Run, St.getK_eq]
      cases hg2 : st2.get 0 s with
      | none => have := hh.1.2 hg2; rw [hg] at this; cases this
      | some v2 =>
        have e := hdr_eq (hh.2 v v2 hg hg2)
        show (g v2.hdr).wpL C st2 _ _
        rw [e]
        exact h5 st2 hs
  | put q u m ih =>
    intro st l0 a st' l h hl
    unfold M.Run at h
    rw [wpL_put] at h
    obtain ⟨s0, g1, o, go, w, gw, o', go', g3⟩ := h
    obtain ⟨post, e, _⟩ := lrs_spec q.p []
    rw [List.append_nil] at e
    have hLR : allLR (lrs q.p []) := lrs_LR _ _ (fun i hi => by simp at hi)
    rw [e] at gw
    obtain ⟨o1, k1, o2, k2, k3, k4⟩ := (upd_app hLR).1 gw
    have k4 : updLR o2 (lrs q.p []) (s0.at q.r.bx) = w := k4
    cases PartP_fun go k1
    have k5 := part_upd_self k1 k3 hLR
    rw [k4] at k5
    cases PartP_fun go' k5
    have hset : ∀ (t : St) (s : Slot), t.get q.r.k q.r.s = some s → t.set q.r.k q.r.s (s.put q.r.bx (updLR o' (lrs q.p []) (s.at q.r.bx))) = t.mod q.pt.k q.pt.s (Eff.part q.pt o').f :=
      fun t s hs => mod_of_get (f := (Eff.part q.pt o').f) hs
    rw [← k4, hset st s0 g1] at g3
    obtain ⟨hle, ws, h1, h2, h3, h5⟩ := ih g3 hl
    have hle := Lg.le_trans (Lg.le_hdW _ q) hle
    obtain ⟨hps, hqs, hv⟩ := wroteP_has hle
    refine ⟨Lg.le_trans (Lg.le_wroteP _ _ _) hle, .part q.pt o' :: ws, h1, ?_, ?_, fun st2 hs => ?_⟩
    · intro x hx
      rcases List.mem_cons.1 hx with rfl | hx
      · exact hqs
      · exact h2 x hx
    · intro c hc
      obtain ⟨j1, j2⟩ := h3 c hc
      have hno := hv c hc
      rw [regA_or] at hno
      simp only [Bool.or_eq_false_iff] at hno
      have e1 : SubS c (st.mod q.pt.k q.pt.s (Eff.part q.pt o').f) st := by
        intro k t sl2 h
        rw [get_mod, show st.get q.pt.k q.pt.s = some s0 from g1] at h
        split at h
        · rename_i e; cases h; rw [e.1, e.2]
          have := put_sub (s := s0) (s2 := s0) (bx := q.r.bx) (.same _) (.same _) (Sub.upd_new (c := c) hno.2 (p := lrs q.p []) (a := s0.at q.r.bx))
          rw [put_at] at this
          exact ⟨s0, g1, this⟩
        · exact ⟨sl2, h, .same _, .same _⟩
      have e2 : SubS c st (st.mod q.pt.k q.pt.s (Eff.part q.pt o').f) := by
        intro k t sl2 h
        rw [get_mod, show st.get q.pt.k q.pt.s = some s0 from g1]
        split
        · rename_i e; rw [e.1, e.2, show st.get q.pt.k q.pt.s = some s0 from g1] at h; cases h
          have := put_sub (s := s0) (s2 := s0) (bx := q.r.bx) (.same _) (.same _) (Sub.upd_old (c := c) (u := o') hno.1 go)
          rw [put_at] at this
          exact ⟨_, rfl, this⟩
        · exact ⟨sl2, h, .same _, .same _⟩
      exact ⟨j1.trans e1, e2.trans j2⟩
    · have hpe := hs.pt _ hps
      cases hg2 : st2.get q.r.k q.r.s with
      | none => have := hpe.1.2 hg2; rw [show st.get q.pt.k q.pt.s = some s0 from g1] at this; simp at this
      | some s2 =>
        have kp : PartP (lrs q.p []) (s2.at q.r.bx) (fun x => x = o) := ((hpe.2 s0 s2 g1 hg2).2 o).1.1 go
        unfold M.Run
        rw [wpL_put]
        refine ⟨s2, hg2, o, kp, updLR o' (lrs q.p []) (s2.at q.r.bx), ?_, o', part_upd_self kp k3 hLR, ?_⟩
        · rw [e]; exact (upd_app hLR).2 ⟨o, kp, o', k2, k3, rfl⟩
        · rw [hset st2 s2 hg2]
          exact h5 _ (hs.part (x := q.pt) (u := o') g1 hg2 go kp)
  | scr s b p m ih =>
    intro st l0 a st' l h hl
    simp only [M.wpL, M.Run] at h
    cases hc : st.clean s b p with
    | false =>
      rw [hc] at h
      obtain ⟨hle, _⟩ := ih h hl
      have := hle.all rfl
      rw [this] at hl; simp at hl
    | true =>
      rw [hc] at h
      obtain ⟨hle, ws, h1, h2, h3, h5⟩ := ih h hl
      refine ⟨Lg.le_trans (Lg.le_struck _ _) hle, ws, h1, h2, h3, fun st2 hs => ?_⟩
      have hbit : l.sc.testBit (Reg.code 0 s b) = true := hle.sc _ (by simp [Lg.struck, Nat.testBit_or, Nat.testBit_two_pow])
      have hc2 : st2.clean s b p = true := by
        rw [clean_iff] at hc ⊢
        intro n sl hn
        obtain ⟨sl1, e1, e2, e3⟩ := hs.sb _ hbit 0 n sl hn
        obtain ⟨c1, c2⟩ := hc n sl1 e1
        exact ⟨e2.clean rfl c1, e3.clean rfl c2⟩
      simp only [M.wpL, M.Run, hc2, cond_true]
      exact h5 st2 hs
  | ext t i g ih =>
    intro st l0 a st' l h hl
    unfold M.Run at h
    rw [wpL_ext] at h
    obtain ⟨s, g1, b, g2, v, g3, g4⟩ := h
    have hT : TupT (tupPt i) (s.at false) v := by
      show TupT (tupPt i) s.v v
      rw [g2]; exact tupQ_pt.2 g3
    have other : ∀ {st2 : St}, PEq (tupAt t i) st st2 → ∃ s2, st2.get 0 t = some s2 ∧ ∃ b2, s2.v = .tup b2 ∧ tupGet b2 i = some v := by
      intro st2 hpe
      cases hg2 : st2.get 0 t with
      | none => have := hpe.1.2 hg2; rw [show st.get (tupAt t i).k (tupAt t i).s = some s from g1] at this; simp at this
      | some s2 =>
        obtain ⟨b2, e1, e2⟩ := tupT_pt (((hpe.2 s s2 g1 hg2).2 v).2.1 hT)
        exact ⟨s2, rfl, b2, e1, e2⟩
    cases ho : v.hasOwn with
    | false =>
      simp only [extLg, ho, cond_false] at g4
      obtain ⟨hle, ws, h1, h2, h3, h5⟩ := ih v g4 hl
      refine ⟨Lg.le_trans (Lg.le_sawP _ _) hle, ws, h1, h2, h3, fun st2 hs => ?_⟩
      obtain ⟨s2, k1, b2, k2, k3⟩ := other (hs.pt _ (sawP_has hle))
      unfold M.Run
      rw [wpL_ext]
      refine ⟨s2, k1, b2, k2, v, k3, ?_⟩
      simp only [extLg, ho, cond_false]
      exact h5 st2 hs
    | true =>
      simp only [extLg, ho, cond_true] at g4
      have hset : ∀ {st : St} {s : Slot} {b : AV}, st.get 0 t = some s → s.v = .tup b → st.set 0 t { s with v := .tup (tupSet b i) } = st.mod 0 t (tkS i) := by
        intro st s b e1 e2
        rw [← tkS_eq e2]
        exact mod_of_get (f := tkS i) e1
      rw [hset g1 g2] at g4
      obtain ⟨hle, ws, h1, h2, h3, h5⟩ := ih v g4 hl
      obtain ⟨hps, hqs, hv⟩ := wroteP_has hle
      refine ⟨Lg.le_trans (Lg.le_wroteP _ _ _) hle, .tk t i :: ws, h1, ?_, ?_, fun st2 hs => ?_⟩
      · intro x hx
        rcases List.mem_cons.1 hx with rfl | hx
        · exact hqs
        · exact h2 x hx
      · intro c hc
        obtain ⟨j1, j2⟩ := h3 c hc
        have hno := hv c hc
        have e1 : SubS c (st.mod 0 t (tkS i)) st := by
          intro k n sl2 h
          rw [get_mod, g1] at h
          split at h
          · rename_i e; cases h; rw [e.1, e.2]
            refine ⟨s, g1, ?_⟩
            rw [tkS_eq g2, g2]
            exact ⟨.tup Sub.tupSet_new, .same _⟩
          · exact ⟨sl2, h, .same _, .same _⟩
        have e2 : SubS c st (st.mod 0 t (tkS i)) := by
          intro k n sl2 h
          rw [get_mod, g1]
          split
          · rename_i e; rw [e.1, e.2, g1] at h; cases h
            refine ⟨_, rfl, ?_⟩
            rw [tkS_eq g2, g2]
            exact ⟨.tup (Sub.tupSet_old g3 hno), .same _⟩
          · exact ⟨sl2, h, .same _, .same _⟩
        exact ⟨j1.trans e1, e2.trans j2⟩
      · obtain ⟨s2, k1, b2, k2, k3⟩ := other (hs.pt _ hps)
        unfold M.Run
        rw [wpL_ext]
        refine ⟨s2, k1, b2, k2, v, k3, ?_⟩
        simp only [extLg, ho, cond_true]
        rw [hset k1 k2]
        exact h5 _ (hs.take g1 k1 g2 k2 g3 k3)
  | grd c m ih =>
    intro st l0 a st' l h hl
    obtain ⟨hle, ws, h1, h2, h3, h5⟩ := ih h.2 hl
    exact ⟨hle, ws, h1, h2, h3, fun st2 hs => ⟨h.1, h5 st2 hs⟩⟩
  | br b x y ihx ihy =>
    intro st l0 a st' l h hl
    cases b
    · exact ihy h hl
    · exact ihx h hl
  | call n as z g ih =>
    intro st l0 a st' l h hl
    obtain ⟨r, g1, g2, g3⟩ := h
    obtain ⟨hle, ws, h1, h2, h3, h5⟩ := ih r g3 hl
    exact ⟨hle, ws, h1, h2, h3, fun st2 hs => ⟨r, g1, g2, h5 st2 hs⟩⟩
  | inl n as g ih =>
    intro st l0 a st' l h hl
    obtain ⟨r, s1, l1, g1, g3⟩ := h
    rw [St.forceK_eq, AV.force_eq] at g3
    rcases g1 with ⟨g1, rfl⟩ | ⟨rs, kk, tt, b, u, hf, ⟨s0, q1, rfl, q3⟩, rfl, rfl⟩
    · obtain ⟨hle, _⟩ := ih r g3 hl
      have := hle.all rfl
      rw [this] at hl; simp at hl
    obtain ⟨⟨f1, f2, f3⟩, hf4⟩ := hf
    have hbox : ∀ (t : St) (s : Slot), t.get kk tt = some s → s.b = s0.b → t.box kk tt u = t.mod kk tt (Eff.part ⟨kk, tt, true, []⟩ u).f := fun t s hs hb => by
      have e : t.box kk tt u = t.mod kk tt fun sl => { sl with b := u } := rfl
      rw [e, ← mod_of_get (f := fun sl : Slot => { sl with b := u }) hs, ← mod_of_get (f := (Eff.part ⟨kk, tt, true, []⟩ u).f) hs]
      congr 1
      show _ = s.put true (updLR u [] s.b)
      rw [hb]
      simp only [updLR, if_pos f3, Slot.put, if_true]
    rw [hbox st s0 q1 rfl] at g3
    obtain ⟨hle, ws, h1, h2, h3, h5⟩ := ih r g3 hl
    obtain ⟨hps, hqs, hv⟩ := wroteP_has hle
    have hle2 := Lg.le_trans (Lg.le_wroteP _ _ _) hle
    obtain ⟨hle0, hsaw⟩ := le_sawL hle2
    refine ⟨hle0, .part ⟨kk, tt, true, []⟩ u :: ws, h1, ?_, ?_, fun st2 hs => ?_⟩
    · intro x hx
      rcases List.mem_cons.1 hx with rfl | hx
      · exact hqs
      · exact h2 x hx
    · intro c hc
      obtain ⟨j1, j2⟩ := h3 c hc
      have hu : (u.regA 0).testBit c = false := by rw [f2]; simp
      have ho : (s0.b.regA 0).testBit c = false := by rw [f1]; simp
      have e1 : SubS c (st.mod kk tt (Eff.part ⟨kk, tt, true, []⟩ u).f) st := by
        intro k t sl2 h
        rw [get_mod, q1] at h
        split at h
        · rename_i e; cases h; rw [e.1, e.2]
          have := put_sub (s := s0) (s2 := s0) (bx := true) (.same _) (.same _) (Sub.upd_new (c := c) hu (p := []) (a := s0.at true))
          rw [put_at] at this
          exact ⟨s0, q1, this⟩
        · exact ⟨sl2, h, .same _, .same _⟩
      have e2 : SubS c st (st.mod kk tt (Eff.part ⟨kk, tt, true, []⟩ u).f) := by
        intro k t sl2 h
        rw [get_mod, q1]
        split
        · rename_i e; rw [e.1, e.2, q1] at h; cases h
          have := put_sub (s := s0) (s2 := s0) (bx := true) (.same _) (.same _) (Sub.upd_old (c := c) (u := u) (o := s0.b) ho (p := []) (a := s0.at true) rfl)
          rw [put_at] at this
          exact ⟨_, rfl, this⟩
        · exact ⟨sl2, h, .same _, .same _⟩
      exact ⟨j1.trans e1, e2.trans j2⟩
    · have hpe := hs.pt _ hps
      cases hg2 : st2.get kk tt with
      | none => have := hpe.1.2 hg2; rw [show st.get kk tt = some s0 from q1] at this; simp at this
      | some s2 =>
        obtain ⟨hfl, hpt⟩ := hpe.2 s0 s2 q1 hg2
        have kp : s2.b = s0.b := (hpt s0.b).1.1 rfl
        have kf : s2.fb = true := by have : s2.fb = s0.fb := hfl; rw [this]; exact q3
        refine ⟨r, st2.box kk tt u, _, .inr ⟨rs, kk, tt, s0.b, u, ⟨⟨f1, f2, f3⟩, fun st3 hb3 hr3 => hf4 st3 hb3 fun s hs3 => (hr3 s hs3).trans (hs.sl 0 s (hsaw s hs3))⟩, ⟨s2, hg2, kp, kf⟩, rfl, rfl⟩, ?_⟩
        rw [St.forceK_eq, AV.force_eq, hbox st2 s2 hg2 kp]
        exact h5 _ (hs.part (x := ⟨kk, tt, true, []⟩) (u := u) (o := s0.b) q1 hg2 rfl kp)
  | fail => intro st l0 a st' l h; exact h.elim

/-- A run leaves the headers of slots alone that it does not write as a whole. -/
theorem run_hdr {α : Type} {C : Orc} (m : M α) : ∀ {st : St} {l0 : Lg} {a : α} {st' : St} {l : Lg}, m.Run C st l0 a st' l → l.all = false →
    ∀ s, l.w.testBit (Lg.code 0 s) = false → l.hw.testBit (Lg.code 0 s) = false → HEq2 s st st' := by
  induction m with
  | pure a => intro st l0 a' st' l h _ s _ _; obtain ⟨_, rfl, _⟩ := h; exact .refl _ _
  | rd n t g ih =>
    intro st l0 a st' l h hl s h1 h2
    simp only [M.wpL, M.Run, St.getK_eq] at h
    cases hg : st.get n t with
    | none => rw [hg] at h; exact h.elim
    | some v => rw [hg] at h; exact ih v h hl s h1 h2
  | wr n t v m ih =>
    intro st l0 a st' l h hl s h1 h2
    unfold M.Run at h
    rw [wpL_wr] at h
    obtain ⟨u, hg, h⟩ := h
    obtain ⟨hw, _⟩ := wrote_has (run_frame m h hl).1
    refine HEq2.trans ?_ (ih h hl s h1 h2)
    rw [St.set_mod]
    unfold HEq2
    rw [get_mod]
    split
    · rename_i e
      have hw : l.w.testBit (Lg.code n t) = true := hw
      rw [← e.1, ← e.2, h1] at hw; cases hw
    · exact HEq2.refl s st
  | get q g ih =>
    intro st l0 a st' l h hl s h1 h2
    simp only [M.wpL, M.Run, Pl.ptK_eq, AV.force_eq, GetP_iff] at h
    obtain ⟨_, _, v, _, h3⟩ := h
    exact ih v h3 hl s h1 h2
  | look q g ih =>
    intro st l0 a st' l h hl s h1 h2
    simp only [M.wpL, M.Run, Pl.ptK_eq, AV.force_eq, LookP_iff] at h
    obtain ⟨_, _, v, _, _, _, h3⟩ := h
    exact ih v h3 hl s h1 h2
  | hd t g ih =>
    intro st l0 a st' l h hl s h1 h2
    simp only [M.wpL, M.Run, St.getK_eq] at h
    cases hg : st.get 0 t with
    | none => rw [hg] at h; exact h.elim
    | some v => rw [hg] at h; exact ih _ h hl s h1 h2
  | put q u m ih =>
    intro st l0 a st' l h hl s h1 h2
    unfold M.Run at h
    rw [wpL_put] at h
    obtain ⟨sl, hg, o, _, w, hw, o', _, h⟩ := h
    have hle := (run_frame m h hl).1
    refine HEq2.trans ?_ (ih h hl s h1 h2)
    rw [St.set_mod]
    unfold HEq2
    rw [get_mod]
    split
    · rename_i e
      rw [e.1, e.2, hg]
      refine ⟨by simp, fun a b g1 g2 => ?_⟩
      cases g1; cases g2
      cases hb : q.r.bx with
      | true => exact ⟨rfl, rfl⟩
      | false =>
        rw [hb] at hw
        refine ⟨?_, rfl⟩
        have hne : q.p ≠ [] := by
          intro hp
          have : (Lg.hdW (l0.wroteP q.pt (o'.regA (o.regA 0))) q).hw.testBit (Lg.code q.r.k q.r.s) = true := by
            unfold Lg.hdW
            rw [hp]
            simp [Nat.testBit_or, Nat.testBit_two_pow]
          have := hle.hw _ this
          rw [← e.1, ← e.2, h2] at this
          cases this
        exact upd_hdr (by simpa using hne) hw
    · exact HEq2.refl s st
  | scr t b p m ih =>
    intro st l0 a st' l h hl s h1 h2
    simp only [M.wpL, M.Run] at h
    cases hc : st.clean t b p with
    | true => rw [hc] at h; exact ih h hl s h1 h2
    | false =>
      rw [hc] at h
      have hle : (Lg.more l0).le l := (run_frame m h hl).1
      have := hle.all rfl
      rw [this] at hl; cases hl
  | ext t i g ih =>
    intro st l0 a st' l h hl s h1 h2
    unfold M.Run at h
    rw [wpL_ext] at h
    obtain ⟨sl, hg, b, hb, v, _, h⟩ := h
    refine HEq2.trans ?_ (ih v h hl s h1 h2)
    cases ho : v.hasOwn with
    | false => exact .refl _ _
    | true =>
      simp only [cond_true]
      rw [St.set_mod]
      unfold HEq2
      rw [get_mod]
      split
      · rename_i e
        rw [e.2, hg]
        refine ⟨by simp, fun a b' g1 g2 => ?_⟩
        cases g1; cases g2
        rw [hb]
        exact ⟨rfl, rfl⟩
      · exact HEq2.refl s st
  | grd c m ih => intro st l0 a st' l h hl s h1 h2; exact ih h.2 hl s h1 h2
  | br b x y ihx ihy =>
    intro st l0 a st' l h hl s h1 h2
    cases b
    · exact ihy h hl s h1 h2
    · exact ihx h hl s h1 h2
  | call n as z g ih => intro st l0 a st' l h hl s h1 h2; obtain ⟨r, _, _, h3⟩ := h; exact ih r h3 hl s h1 h2
  | inl n as g ih =>
    intro st l0 a st' l h hl s h1 h2
    obtain ⟨r, s1, l1, g1, h3⟩ := h
    rw [St.forceK_eq, AV.force_eq] at h3
    rcases g1 with ⟨g1, rfl⟩ | ⟨rs, kk, tt, b, u, hf, ⟨s0, q1, rfl, q3⟩, rfl, rfl⟩
    · have hle : (Lg.more l0).le l := (run_frame (g r) h3 hl).1
      have := hle.all rfl
      rw [this] at hl; cases hl
    refine HEq2.trans ?_ (ih r h3 hl s h1 h2)
    have e : st.box kk tt u = st.mod kk tt fun sl => { sl with b := u } := rfl
    unfold HEq2
    rw [e, get_mod]
    split
    · rename_i e
      rw [e.1, e.2, q1]
      refine ⟨by simp, fun a b g1 g2 => ?_⟩
      cases g1; cases g2
      exact ⟨rfl, rfl⟩
    · exact HEq2.refl s st
  | fail => intro st l0 a st' l h; exact h.elim

theorem PEq.refl (x : Pt) (st : St) : PEq x st st := ⟨Iff.rfl, fun a b h1 h2 => by rw [h1] at h2; cases h2; exact ⟨rfl, fun _ => ⟨Iff.rfl, Iff.rfl⟩⟩⟩
theorem PEq.symm {x : Pt} {a b : St} (h : PEq x a b) : PEq x b a := ⟨h.1.symm, fun s t h1 h2 => ⟨(h.2 t s h2 h1).1.symm, fun o => ⟨((h.2 t s h2 h1).2 o).1.symm, ((h.2 t s h2 h1).2 o).2.symm⟩⟩⟩
theorem PEq.trans {x : Pt} {a b c : St} (h : PEq x a b) (g : PEq x b c) : PEq x a c := by
  refine ⟨h.1.trans g.1, fun s t h1 h2 => ?_⟩
  cases hb : b.get x.k x.s with
  | none => rw [h.1.2 hb] at h1; simp at h1
  | some u =>
    obtain ⟨e1, e2⟩ := h.2 s u h1 hb
    obtain ⟨e3, e4⟩ := g.2 u t hb h2
    exact ⟨e3.trans e1, fun o => ⟨(e2 o).1.trans (e4 o).1, (e2 o).2.trans (e4 o).2⟩⟩

/-- An effect does not touch a slot, or a part. -/
def Eff.offS (e : Eff) (k s : Nat) : Prop := ¬ (e.k = k ∧ e.s = s)
def Eff.offP : Eff → Pt → Prop
  | .whole k s _, x => ¬ (k = x.k ∧ s = x.s)
  | .part y _, x => y.k = x.k ∧ y.s = x.s ∧ y.bx = x.bx → parting x.p y.p = true
  | .tk t i, x => 0 = x.k ∧ t = x.s ∧ false = x.bx → parting x.p (tupPt i) = true

theorem get_app {k s : Nat} : ∀ {ws : List Eff} {st : St}, (∀ e ∈ ws, e.offS k s) → (app ws st).get k s = st.get k s := by
  intro ws
  induction ws with
  | nil => intro st _; rfl
  | cons e ws ih =>
    intro st h
    show (app ws (st.mod e.k e.s e.f)).get k s = _
    rw [ih (fun x hx => h x (List.mem_cons_of_mem _ hx)), get_mod, if_neg]
    rintro ⟨e1, e2⟩
    exact h e List.mem_cons_self ⟨e1.symm, e2.symm⟩

theorem PEq_mod {e : Eff} {x : Pt} {st : St} (h : e.offP x) : PEq x st (st.mod e.k e.s e.f) := by
  unfold PEq
  rw [get_mod]
  by_cases hs : x.k = e.k ∧ x.s = e.s
  · simp only [if_pos hs]
    rw [hs.1, hs.2]
    refine ⟨by simp, fun a b h1 h2 => ?_⟩
    rw [h1] at h2
    cases h2
    cases e with
    | whole k s v => exact absurd ⟨hs.1.symm, hs.2.symm⟩ h
    | part y u =>
      simp only [Eff.f]
      refine ⟨flag_put _ _ _ _, fun o => ?_⟩
      by_cases eb : y.bx = x.bx
      · have hp := h ⟨hs.1.symm, hs.2.symm, eb⟩
        have hne : y.p ≠ [] := by intro e; rw [e] at hp; cases hx : x.p with
          | nil => rw [hx] at hp; simp [parting] at hp
          | cons i r => rw [hx] at hp; cases i <;> simp [parting] at hp
        rw [eb, at_put]; exact ⟨(part_upd_off hp).symm, (tupT_upd hne).symm⟩
      · rw [at_put_ne _ eb]; exact ⟨Iff.rfl, Iff.rfl⟩
    | tk t i =>
      have hrfl : ∀ {s : Slot} (bx : Bool), s.flag bx = s.flag bx ∧ ∀ o, (PartP x.p (s.at bx) (fun u => u = o) ↔ PartP x.p (s.at bx) (fun u => u = o)) ∧ (TupT x.p (s.at bx) o ↔ TupT x.p (s.at bx) o) := fun _ => ⟨rfl, fun _ => ⟨Iff.rfl, Iff.rfl⟩⟩
      show (tkS i a).flag x.bx = a.flag x.bx ∧ ∀ o, (PartP x.p (a.at x.bx) (fun u => u = o) ↔ PartP x.p ((tkS i a).at x.bx) (fun u => u = o)) ∧ (TupT x.p (a.at x.bx) o ↔ TupT x.p ((tkS i a).at x.bx) o)
      obtain ⟨v, b, fv, fb⟩ := a
      cases v <;> try exact hrfl _
      rename_i b'
      cases eb : x.bx with
      | true => exact hrfl (s := ⟨.tup b', b, fv, fb⟩) true
      | false =>
        have hp := h ⟨hs.1.symm, hs.2.symm, eb.symm⟩
        have hne : x.p ≠ [] := by intro e; rw [e] at hp; simp [parting] at hp
        exact ⟨rfl, fun o => ⟨⟨fun g => absurd g (part_tup hne), fun g => absurd g (part_tup hne)⟩, (tupQ_off hp).symm⟩⟩
  · simp only [if_neg hs]
    exact ⟨by simp, (PEq.refl x st).2⟩

theorem PEq_app {x : Pt} : ∀ {ws : List Eff} {st : St}, (∀ e ∈ ws, e.offP x) → PEq x st (app ws st) := by
  intro ws
  induction ws with
  | nil => intro st _; exact PEq.refl _ _
  | cons e ws ih =>
    intro st h
    exact (PEq_mod (h e List.mem_cons_self)).trans (ih (fun y hy => h y (List.mem_cons_of_mem _ hy)))

/-- Two effects may change places. -/
def Eff.comm (e g : Eff) : Prop := ¬ (e.k = g.k ∧ e.s = g.s) ∨ ∀ v, e.f (g.f v) = g.f (e.f v)

theorem mod_app {e : Eff} : ∀ {ws : List Eff} {st : St}, (∀ g ∈ ws, e.comm g) → app ws (st.mod e.k e.s e.f) = (app ws st).mod e.k e.s e.f := by
  intro ws
  induction ws with
  | nil => intro st _; rfl
  | cons g ws ih =>
    intro st h
    show app ws ((st.mod e.k e.s e.f).mod g.k g.s g.f) = (app ws (st.mod g.k g.s g.f)).mod e.k e.s e.f
    rw [mod_comm st (h g List.mem_cons_self), ih (fun x hx => h x (List.mem_cons_of_mem _ hx))]

theorem app_comm {ws : List Eff} : ∀ {vs : List Eff} {st : St}, (∀ e ∈ vs, ∀ g ∈ ws, e.comm g) → app ws (app vs st) = app vs (app ws st) := by
  intro vs
  induction vs with
  | nil => intro st _; rfl
  | cons v vs ih =>
    intro st h
    show app ws (app vs (st.mod v.k v.s v.f)) = app vs ((app ws st).mod v.k v.s v.f)
    rw [ih (fun e he => h e (List.mem_cons_of_mem _ he)), mod_app (h v List.mem_cons_self)]

theorem offs_spec {m : Nat} : ∀ {l : List Pt}, offs l m = true → ∀ x ∈ l, m.testBit (Lg.code x.k x.s) = false := by
  intro l
  induction l with
  | nil => intro _ x hx; simp at hx
  | cons y l ih =>
    intro h x hx
    obtain ⟨k, s, bx, p⟩ := y
    simp only [offs] at h
    cases hb : m.testBit (Lg.code k s) with
    | true => rw [hb] at h; simp at h
    | false =>
      rw [hb] at h
      rcases List.mem_cons.1 hx with rfl | hx
      · exact hb
      · exact ih h x hx

theorem off_spec {x y : Pt} (h : x.off y = true) : x.k = y.k ∧ x.s = y.s ∧ x.bx = y.bx → parting x.p y.p = true := by
  obtain ⟨k, s, bx, p⟩ := x
  obtain ⟨k', s', bx', p'⟩ := y
  rintro ⟨e1, e2, e3⟩
  simp only at e1 e2 e3
  subst e1; subst e2; subst e3
  simpa [Pt.off] using h

theorem offL_spec {x : Pt} : ∀ {l : List Pt}, offL x l = true → ∀ y ∈ l, x.off y = true := by
  intro l
  induction l with
  | nil => intro _ x hx; simp at hx
  | cons z l ih =>
    intro h y hy
    simp only [offL] at h
    cases hb : x.off z with
    | false => rw [hb] at h; simp at h
    | true =>
      rw [hb] at h
      rcases List.mem_cons.1 hy with rfl | hy
      · exact hb
      · exact ih h y hy

theorem offLL_spec {m : List Pt} : ∀ {l : List Pt}, offLL l m = true → ∀ x ∈ l, ∀ y ∈ m, x.off y = true := by
  intro l
  induction l with
  | nil => intro _ x hx; simp at hx
  | cons z l ih =>
    intro h x hx
    simp only [offLL] at h
    cases hb : offL z m with
    | false => rw [hb] at h; simp at h
    | true =>
      rw [hb] at h
      rcases List.mem_cons.1 hx with rfl | hx
      · exact offL_spec hb
      · exact ih h x hx

theorem parting_symm : ∀ {p q : List Stp}, parting p q = parting q p := by
  intro p
  induction p with
  | nil => intro q; cases q with
    | nil => rfl
    | cons j q => cases j <;> rfl
  | cons i p ih =>
    intro q
    cases q with
    | nil => cases i <;> rfl
    | cons j q => cases i <;> cases j <;> simp only [parting, ih]

/-- One run's writes lie off the other one's reads and writes. -/
structure Off (a b : Lg) : Prop where
  ww : ∀ k s, a.hasW k s → ¬ b.has k s
  wp : ∀ x ∈ b.ps, ¬ a.hasW x.k x.s
  qr : ∀ x ∈ a.qs, ¬ b.has x.k x.s
  qp : ∀ x ∈ a.qs, ∀ y ∈ b.ps, x.off y = true
  sv : ∀ c, b.sc.testBit c = true → a.v.testBit c = false
  hh : ∀ c, b.h.testBit c = true → a.w.testBit c = false ∧ a.hw.testBit c = false

/-- What a log says was written lies among what it says was read. -/
def Lg.wf (l : Lg) : Prop := ∀ x ∈ l.qs, x ∈ l.ps

theorem Lg.apart_spec {a b : Lg} (ha : a.wf) (hb : b.wf) (h : a.apart b = true) : a.all = false ∧ b.all = false ∧ Off a b ∧ Off b a := by
  simp only [Lg.apart, Bool.and_eq_true, Bool.not_eq_true'] at h
  obtain ⟨⟨⟨⟨⟨⟨⟨⟨⟨⟨⟨⟨⟨h1, h2⟩, h3⟩, h4⟩, h5⟩, h6⟩, h7⟩, h8⟩, h9⟩, h10⟩, h11⟩, h12⟩, h13⟩, h14⟩ := h
  have zero : ∀ {x y : Nat}, x &&& y = 0 → ∀ n, x.testBit n = true → y.testBit n = false := by
    intro x y e n hx
    have := congrArg (fun x => x.testBit n) e
    simpa [Nat.testBit_and, hx] using this
  have g3 := zero (Nat.eq_of_beq_eq_true h3)
  have g4 := zero (Nat.eq_of_beq_eq_true h4)
  have t : ∀ {x : Bool}, x = false → ¬ x = true := by intro x h; simp [h]
  have hdz : ∀ {x y z : Nat}, (x ||| y) &&& z = 0 → ∀ n, z.testBit n = true → x.testBit n = false ∧ y.testBit n = false := by
    intro x y z e n hz
    have := congrArg (fun x => x.testBit n) e
    simpa [Nat.testBit_and, Nat.testBit_or, hz] using this
  refine ⟨h1, h2, ⟨?_, fun x hx => t (offs_spec h8 x hx), ?_, offLL_spec h11, zero (Nat.eq_of_beq_eq_true h6), hdz (Nat.eq_of_beq_eq_true h13)⟩, ⟨?_, fun x hx => t (offs_spec h7 x hx), ?_, offLL_spec h12, zero (Nat.eq_of_beq_eq_true h5), hdz (Nat.eq_of_beq_eq_true h14)⟩⟩
  · intro k s hw hh
    have := g3 _ hw
    simp only [Nat.testBit_or, Bool.or_eq_false_iff] at this
    rcases hh with hh | hh
    · rw [this.1] at hh; simp at hh
    · rw [this.2] at hh; simp at hh
  · intro x hx hh
    rcases hh with hh | hh
    · rw [offs_spec h9 x hx] at hh; simp at hh
    · rw [offs_spec h7 x (ha x hx)] at hh; simp at hh
  · intro k s hw hh
    rcases hh with hh | hh
    · rw [g4 _ hw] at hh; simp at hh
    · have := g3 _ hh
      simp only [Nat.testBit_or, Bool.or_eq_false_iff] at this
      have hw : b.w.testBit (Lg.code k s) = true := hw
      rw [this.2] at hw; simp at hw
  · intro x hx hh
    rcases hh with hh | hh
    · rw [offs_spec h10 x hx] at hh; simp at hh
    · rw [offs_spec h8 x (hb x hx)] at hh; simp at hh

theorem Off.agree {a b : Lg} (h : Off a b) {ws : List Eff} (hw : ∀ e ∈ ws, e.ok a) {st st2 : St} (hs : ∀ c, b.sc.testBit c = true → SubS c st2 st) (hhd : ∀ s, b.h.testBit (Lg.code 0 s) = true → HEq2 s st st2) (he : st2 = app ws st ∨ st = app ws st2) : Agree b st st2 := by
  have o1 : ∀ k s, b.has k s → ∀ e ∈ ws, e.offS k s := by
    intro k s hh e he ⟨e1, e2⟩
    cases e with
    | whole n t v => simp only [Eff.k, Eff.s] at e1 e2; subst e1; subst e2; exact h.ww _ _ (hw _ he) hh
    | part x u => simp only [Eff.k, Eff.s] at e1 e2; subst e1; subst e2; exact h.qr x (hw _ he) hh
    | tk t i => simp only [Eff.k, Eff.s] at e1 e2; subst e1; subst e2; exact h.qr (tupAt t i) (hw _ he) hh
  have o2 : ∀ x ∈ b.ps, ∀ e ∈ ws, e.offP x := by
    intro x hx e he
    cases e with
    | whole n t v => rintro ⟨e1, e2⟩; have := hw _ he; subst e1; subst e2; exact h.wp x hx this
    | part y u => intro e; rw [parting_symm]; exact off_spec (h.qp y (hw _ he) x hx) e
    | tk t i => intro e; rw [parting_symm]; exact off_spec (h.qp (tupAt t i) (hw _ he) x hx) e
  refine ⟨fun k s hh => ?_, fun x hx => ?_, hs, hhd⟩
  · rcases he with rfl | rfl
    · exact get_app (o1 k s hh)
    · exact (get_app (o1 k s hh)).symm
  · rcases he with rfl | rfl
    · exact PEq_app (o2 x hx)
    · exact (PEq_app (o2 x hx)).symm

theorem parting_ne {p q : List Stp} (h : parting p q = true) : p ≠ [] ∧ q ≠ [] := by
  constructor
  · intro e; rw [e] at h; simp [parting] at h
  · intro e; rw [e] at h; cases p with
    | nil => simp [parting] at h
    | cons i r => cases i <;> simp [parting] at h

theorem tk_part {x : Pt} {u : AV} {t i : Nat} (h : x.bx = false → parting x.p (tupPt i) = true) (sl : Slot) : (Eff.tk t i).f ((Eff.part x u).f sl) = (Eff.part x u).f ((Eff.tk t i).f sl) := by
  obtain ⟨v, b, fv, fb⟩ := sl
  simp only [Eff.f]
  cases eb : x.bx with
  | true => cases v <;> rfl
  | false =>
    obtain ⟨hne, _⟩ := parting_ne (h eb)
    show tkS i ⟨updLR u x.p v, b, fv, fb⟩ = _
    by_cases hv : ∃ w, v = .tup w
    · obtain ⟨w, rfl⟩ := hv
      rw [upd_tup hne]
      show _ = Slot.mk (updLR u x.p (.tup (tupSet w i))) b fv fb
      rw [upd_tup hne]; rfl
    · have h1 : ∀ w, v ≠ .tup w := fun w e => hv ⟨w, e⟩
      have h2 := upd_untup (u := u) hne h1
      have nt : ∀ {v : AV}, (∀ w, v ≠ .tup w) → tkS i ⟨v, b, fv, fb⟩ = ⟨v, b, fv, fb⟩ := by
        intro v h; cases v <;> first | rfl | exact absurd rfl (h _)
      rw [nt h2, nt h1]; rfl

theorem Off.comm {a b : Lg} (ha : Off a b) (hb : Off b a) (hbw : b.wf) {e g : Eff} (he : e.ok a) (hg : g.ok b) : e.comm g := by
  cases e with
  | whole k s v =>
    cases g with
    | whole k' s' v' => exact .inl fun ⟨e1, e2⟩ => by simp only [Eff.k, Eff.s] at e1 e2; subst e1; subst e2; exact ha.ww _ _ he (.inr hg)
    | part y u => exact .inl fun ⟨e1, e2⟩ => by simp only [Eff.k, Eff.s] at e1 e2; subst e1; subst e2; exact hb.qr y hg (.inr he)
    | tk t i => exact .inl fun ⟨e1, e2⟩ => by simp only [Eff.k, Eff.s] at e1 e2; subst e1; subst e2; exact hb.qr (tupAt s i) hg (.inr he)
  | part x u =>
    cases g with
    | whole k' s' v' => exact .inl fun ⟨e1, e2⟩ => by simp only [Eff.k, Eff.s] at e1 e2; subst e1; subst e2; exact ha.qr x he (.inr hg)
    | part y w =>
      have hoff := off_spec (ha.qp x he y (hbw y hg))
      by_cases hs : x.k = y.k ∧ x.s = y.s
      · refine .inr fun sl => ?_
        simp only [Eff.f]
        by_cases eb : x.bx = y.bx
        · have hp := hoff ⟨hs.1, hs.2, eb⟩
          rw [← eb, at_put, at_put, updLR_comm hp]
          cases x.bx <;> rfl
        · rw [at_put_ne _ (fun e => eb e.symm), at_put_ne _ eb]
          cases hx : x.bx <;> cases hy : y.bx <;> simp only [hx, hy] at eb ⊢ <;> first | rfl | simp at eb
      · exact .inl hs
    | tk t i =>
      have hoff := off_spec (ha.qp x he (tupAt t i) (hbw _ hg))
      by_cases hs : x.k = 0 ∧ x.s = t
      · exact .inr fun sl => (tk_part (fun eb => hoff ⟨hs.1, hs.2, eb⟩) sl).symm
      · exact .inl hs
  | tk t i =>
    cases g with
    | whole k' s' v' => exact .inl fun ⟨e1, e2⟩ => by simp only [Eff.k, Eff.s] at e1 e2; subst e1; subst e2; exact ha.qr (tupAt t i) he (.inr hg)
    | part y w =>
      have hoff := off_spec (ha.qp (tupAt t i) he y (hbw y hg))
      by_cases hs : 0 = y.k ∧ t = y.s
      · exact .inr fun sl => tk_part (fun eb => by rw [parting_symm]; exact hoff ⟨hs.1, hs.2, eb.symm⟩) sl
      · exact .inl hs
    | tk t' j =>
      have hoff := off_spec (ha.qp (tupAt t i) he (tupAt t' j) (hbw _ hg))
      by_cases hs : t = t'
      · refine .inr fun sl => ?_
        have hp := hoff ⟨rfl, hs, rfl⟩
        obtain ⟨v, b, fv, fb⟩ := sl
        simp only [Eff.f]
        cases v <;> try rfl
        simp only [tkS]
        rw [tupSet_comm (by rw [parting_symm]; exact hp)]
      · exact .inl fun e => hs e.2

theorem run_wf {α : Type} {C : Orc} (m : M α) : ∀ {st : St} {l0 : Lg} {a : α} {st' : St} {l : Lg}, m.Run C st l0 a st' l → l0.wf → l.wf := by
  induction m with
  | pure a => intro st l0 a' st' l h hw; obtain ⟨_, _, rfl⟩ := h; exact hw
  | rd n s g ih =>
    intro st l0 a st' l h hw
    simp only [M.wpL, M.Run, St.getK_eq] at h
    cases hg : st.get n s with
    | none => rw [hg] at h; exact h.elim
    | some v => rw [hg] at h; exact ih v h hw
  | wr n s v m ih =>
    intro st l0 a st' l h hw
    unfold M.Run at h
    rw [wpL_wr] at h
    obtain ⟨u, h1, h2⟩ := h
    exact ih h2 hw
  | get q g ih =>
    intro st l0 a st' l h hw
    simp only [M.wpL, M.Run, Pl.ptK_eq, AV.force_eq, GetP_iff] at h
    obtain ⟨s, h1, v, h2, h3⟩ := h
    exact ih v h3 (fun x hx => List.mem_cons_of_mem _ (hw x hx))
  | look q g ih =>
    intro st l0 a st' l h hw
    simp only [M.wpL, M.Run, Pl.ptK_eq, AV.force_eq, LookP_iff] at h
    obtain ⟨s, h1, v, h2, g1, g2, h3⟩ := h
    exact ih v h3 (fun x hx => List.mem_cons_of_mem _ (hw x hx))
  | hd s g ih =>
    intro st l0 a st' l h hw
    simp only [M.wpL, M.Run, St.getK_eq] at h
    cases hg : st.get 0 s with
    | none => rw [hg] at h; exact h.elim
    | some v => rw [hg] at h; exact ih _ h hw
  | put q u m ih =>
    intro st l0 a st' l h hw
    unfold M.Run at h
    rw [wpL_put] at h
    obtain ⟨s, h1, o, _, v, h2, o', _, h3⟩ := h
    refine ih h3 (fun x hx => ?_)
    rw [(hdW_ps _ _).1]
    rw [(hdW_ps _ _).2.1] at hx
    rcases List.mem_cons.1 hx with rfl | hx
    · exact List.mem_cons_self
    · exact List.mem_cons_of_mem _ (hw x hx)
  | scr s b p m ih =>
    intro st l0 a st' l h hw
    simp only [M.wpL, M.Run] at h
    cases hc : st.clean s b p with
    | true => rw [hc] at h; exact ih h hw
    | false => rw [hc] at h; exact ih h hw
  | ext t i g ih =>
    intro st l0 a st' l h hw
    unfold M.Run at h
    rw [wpL_ext] at h
    obtain ⟨s, h1, b, h2, v, h3, h4⟩ := h
    refine ih v h4 ?_
    unfold extLg
    cases v.hasOwn with
    | true =>
      intro x hx
      rcases List.mem_cons.1 hx with rfl | hx
      · exact List.mem_cons_self
      · exact List.mem_cons_of_mem _ (hw x hx)
    | false => exact fun x hx => List.mem_cons_of_mem _ (hw x hx)
  | grd c m ih => intro st l0 a st' l h hw; exact ih h.2 hw
  | br b x y ihx ihy =>
    intro st l0 a st' l h hw
    cases b
    · exact ihy h hw
    · exact ihx h hw
  | call n as z g ih => intro st l0 a st' l h hw; obtain ⟨r, h1, h2, h3⟩ := h; exact ih r h3 hw
  | inl n as g ih =>
    intro st l0 a st' l h hw
    obtain ⟨r, s1, l1, h1, h3⟩ := h
    rw [St.forceK_eq, AV.force_eq] at h3
    rcases h1 with ⟨h1, rfl⟩ | ⟨rs, kk, tt, b, u, _, _, _, rfl⟩
    · exact ih r h3 hw
    · refine ih r h3 (fun x hx => ?_)
      rcases List.mem_cons.1 hx with rfl | hx
      · exact List.mem_cons_self
      · refine List.mem_cons_of_mem _ ?_
        rw [(sawL_same rs l0).1]
        rw [(sawL_same rs l0).2] at hx
        exact hw x hx
  | fail => intro st l0 a st' l h; exact h.elim

/-- Two runs that do not touch each other may change places. -/
theorem run_swap {C : Orc} {A B : M Unit} {st st1 st2 : St} {la lb : Lg} (ha : A.Run C st Lg.nil () st1 la) (hb : B.Run C st1 Lg.nil () st2 lb) (hap : la.apart lb = true) :
    ∃ st1', B.Run C st Lg.nil () st1' lb ∧ A.Run C st1' Lg.nil () st2 la := by
  have nil : Lg.nil.wf := fun x hx => by simp [Lg.nil] at hx
  have fa := run_wf _ ha nil
  have fb := run_wf _ hb nil
  obtain ⟨h1, h2, h3, h4⟩ := Lg.apart_spec fa fb hap
  obtain ⟨_, wa, rfl, wa1, wa2, wa3⟩ := run_frame _ ha h1
  obtain ⟨_, wb, rfl, wb1, wb2, wb3⟩ := run_frame _ hb h2
  have hdA := run_hdr _ ha h1
  have hB := wb3 st (h3.agree wa1 (fun c hc => (wa2 c (h3.sv c hc)).2) (fun s hs => (hdA s (h3.hh _ hs).1 (h3.hh _ hs).2).symm) (.inr rfl))
  obtain ⟨_, vb, _, _, vb2, _⟩ := run_frame _ hB h2
  have hdB := run_hdr _ hB h2
  refine ⟨app wb st, hB, ?_⟩
  have hA := wa3 (app wb st) (h4.agree wb1 (fun c hc => (vb2 c (h4.sv c hc)).1) (fun s hs => hdB s (h4.hh _ hs).1 (h4.hh _ hs).2) (.inl rfl))
  rw [app_comm (fun e he g hg => h4.comm h3 fa (wb1 e he |> fun x => x) (wa1 g hg))] at hA
  exact hA

/-! ### Chains of runs -/

def Chain (E : Env) (C : Orc) (ops : List Oper) : List (Nat × Lg) → St → St → Prop
  | [], st, st' => st = st'
  | (i, l) :: r, st, st' => ∃ o st1, ops[i]? = some o ∧ (evG E ops o).Run C st Lg.nil () st1 l ∧ Chain E C ops r st1 st'

theorem chain_front {E : Env} {C : Orc} {ops : List Oper} {i : Nat} {l : Lg} {post : List (Nat × Lg)} : ∀ {pre : List (Nat × Lg)} {st st' : St}, Chain E C ops (pre ++ (i, l) :: post) st st' → (∀ x ∈ pre, x.2.apart l = true) → Chain E C ops ((i, l) :: (pre ++ post)) st st' := by
  intro pre
  induction pre with
  | nil => intro st st' h _; exact h
  | cons x pre ih =>
    intro st st' h hap
    obtain ⟨j, lj⟩ := x
    obtain ⟨o, st1, ho, hr, h⟩ := h
    obtain ⟨oi, st2, hoi, hri, h⟩ := ih h (fun y hy => hap y (List.mem_cons_of_mem _ hy))
    obtain ⟨s', g1, g2⟩ := run_swap hr hri (hap (j, lj) (by simp))
    exact ⟨oi, s', hoi, g1, o, st2, ho, g2, h⟩

/-- The logs of a text's order. -/
theorem evDraw_chain {E : Env} {C : Orc} {ops : List Oper} {ms : List Nat} {k : St → Prop} : ∀ (r : List Oper) (i : Nat) (ls : List (Nat × Lg)) (st : St), ops.drop i = r → evDraw E C ops ms i ls r st k →
    ∃ (L : List (Nat × Lg)) (st' : St), L.map (·.1) = List.range' i r.length ∧ Chain E C ops L st st' ∧ k st' ∧ (∀ x ∈ L, ∀ y ∈ ls, (ms.getD x.1 0).testBit y.1 = true ∨ y.2.apart x.2 = true) ∧
      L.Pairwise (fun y x => (ms.getD x.1 0).testBit y.1 = true ∨ y.2.apart x.2 = true) := by
  intro r
  induction r with
  | nil => intro i ls st _ h; exact ⟨[], st, rfl, rfl, h, (fun x hx => by simp at hx), List.Pairwise.nil⟩
  | cons o r ih =>
    intro i ls st hd h
    have hget : ops[i]? = some o := by
      have e : (ops.drop i)[0]? = some o := by rw [hd]; rfl
      rw [List.getElem?_drop] at e
      simpa using e
    have hd' : ops.drop (i + 1) = r := by rw [← List.drop_drop, hd]; rfl
    obtain ⟨u, st1, l, hr, h⟩ := wpL_run _ h
    have key : ∀ (ls : List (Nat × Lg)), fits (ms.getD i 0) l ls = true → ∀ y ∈ ls, (ms.getD i 0).testBit y.1 = true ∨ y.2.apart l = true := by
      intro ls
      induction ls with
      | nil => intro _ y hy; simp at hy
      | cons z ls ihl =>
        intro hf y hy
        obtain ⟨j, l'⟩ := z
        simp only [fits] at hf
        cases hb : (ms.getD i 0).testBit j with
        | true =>
          rw [hb] at hf
          rcases List.mem_cons.1 hy with rfl | hy
          · exact .inl hb
          · exact ihl hf y hy
        | false =>
          rw [hb] at hf
          simp only [cond_false, Bool.and_eq_true] at hf
          rcases List.mem_cons.1 hy with rfl | hy
          · exact .inr hf.1
          · exact ihl hf.2 y hy
    cases hf : fits (ms.getD i 0) l ls with
    | false => rw [hf] at h; exact h.elim
    | true =>
      rw [hf] at h
      obtain ⟨L, st', h1, h2, h3, h4, h5⟩ := ih (i + 1) ((i, l) :: ls) st1 hd' h
      refine ⟨(i, l) :: L, st', ?_, ⟨o, st1, hget, hr, h2⟩, h3, ?_, ?_⟩
      · simp only [List.map_cons, List.length_cons, List.range'_succ, h1]
      · intro x hx y hy
        rcases List.mem_cons.1 hx with rfl | hx
        · exact key ls hf y hy
        · exact h4 x hx y (List.mem_cons_of_mem _ hy)
      · refine List.Pairwise.cons ?_ h5
        intro x hx
        exact h4 x hx (i, l) (by simp)

/-! ### The machine's orders -/

theorem masks_spec {ops : List Oper} {ms : List Nat} : ∀ {r : List Oper} {i : Nat}, ops.drop i = r → masksOk ms i r = true → ∀ (n : Nat) (o : Oper), i ≤ n → ops[n]? = some o → ms.getD n 0 = maskOf ms o ∧ ∀ e ∈ o.after.toList, Region.binds .any e = true → e.on < n := by
  intro r
  induction r with
  | nil =>
    intro i hd _ n o hn ho
    have : ops.length ≤ i := by simpa using hd
    have := (List.getElem?_eq_some_iff.1 ho).1
    omega
  | cons x r ih =>
    intro i hd h n o hn ho
    simp only [masksOk, Bool.and_eq_true] at h
    by_cases hi : n = i
    · subst hi
      have e : (ops.drop n)[0]? = some x := by rw [hd]; rfl
      rw [List.getElem?_drop, Nat.add_zero, ho] at e
      cases e
      refine ⟨Nat.eq_of_beq_eq_true h.1.1, fun e he hb => ?_⟩
      have := List.all_eq_true.1 h.1.2 e he
      simpa [Nat.blt_eq, hb] using this
    · exact ih (i := i + 1) (by rw [← List.drop_drop, hd]; rfl) h.2 n o (by omega) ho

theorem rank_spec {md : Region.Mode} {rk : Nat → Nat} {N : Nat} {ops : List Oper} : ∀ {r : List Oper} {i : Nat}, ops.drop i = r → rankOk md rk N i r = true → ∀ (n : Nat) (o : Oper), i ≤ n → ops[n]? = some o → ∀ e ∈ o.after.toList, Region.binds md e = true → e.on < N ∧ rk e.on < rk n := by
  intro r
  induction r with
  | nil =>
    intro i hd _ n o hn ho
    have : ops.length ≤ i := by simpa using hd
    have := (List.getElem?_eq_some_iff.1 ho).1
    omega
  | cons x r ih =>
    intro i hd h n o hn ho
    simp only [rankOk, Bool.and_eq_true] at h
    by_cases hi : n = i
    · subst hi
      have e : (ops.drop n)[0]? = some x := by rw [hd]; rfl
      rw [List.getElem?_drop, Nat.add_zero, ho] at e
      cases e
      intro e he hb
      have := List.all_eq_true.1 h.1 e he
      simpa [Nat.blt_eq, hb] using this
    · exact ih (i := i + 1) (by rw [← List.drop_drop, hd]; rfl) h.2 n o (by omega) ho

theorem maskOf_spec {ms : List Nat} {o : Oper} {j : Nat} (h : (maskOf ms o).testBit j = true) : ∃ e ∈ o.after.toList, Region.binds .any e = true ∧ (e.on = j ∨ (ms.getD e.on 0).testBit j = true) := by
  unfold maskOf at h
  have key : ∀ (es : List Edge) (s : Nat), (es.foldl (fun s e => cond (Region.binds .any e) (s ||| 2 ^ e.on ||| ms.getD e.on 0) s) s).testBit j = true →
      s.testBit j = true ∨ ∃ e ∈ es, Region.binds .any e = true ∧ (e.on = j ∨ (ms.getD e.on 0).testBit j = true) := by
    intro es
    induction es with
    | nil => intro s h; exact .inl h
    | cons e es ih =>
      intro s h
      rcases ih _ h with h | ⟨e', h1, h2⟩
      · simp only at h
        cases hb : Region.binds .any e with
        | false => rw [hb] at h; exact .inl h
        | true =>
          rw [hb] at h
          simp only [cond_true, Nat.testBit_or, Bool.or_eq_true, Nat.testBit_two_pow, decide_eq_true_eq] at h
          rcases h with (h | h) | h
          · exact .inl h
          · exact .inr ⟨e, by simp, hb, .inl h⟩
          · exact .inr ⟨e, by simp, hb, .inr h⟩
      · exact .inr ⟨e', List.mem_cons_of_mem _ h1, h2⟩
  rcases key _ _ h with h | h
  · simp at h
  · exact h

theorem binds_any {md : Region.Mode} {e : Edge} (h : Region.binds .any e = true) : Region.binds md e = true := by
  unfold Region.binds at h ⊢
  split at h <;> first | (simp at h; done) | rfl | (split <;> simp_all)

theorem mem_ready {md : Region.Mode} {ops : Array Oper} {listed : Array Bool} {i : Nat} : i ∈ Region.ready md ops listed ↔ i < ops.size ∧ listed.getD i true = false ∧ ∃ o, ops[i]? = some o ∧ ∀ e ∈ o.after.toList, Region.binds md e = true → listed.getD e.on false = true := by
  simp only [Region.ready, List.mem_filter, List.mem_range, Bool.and_eq_true, Bool.not_eq_true']
  refine and_congr_right fun hi => and_congr_right fun _ => ?_
  have : ops[i]? = some ops[i] := by simp [hi]
  rw [this]
  simp only [Option.map_some, Option.getD_some, Array.all_eq_true_iff_forall_mem, Bool.or_eq_true, Bool.not_eq_true', Option.some.injEq, exists_eq_left', Array.mem_toList_iff]
  refine forall_congr' fun e => imp_congr_right fun _ => ?_
  cases Region.binds md e <;> simp

theorem evG_ok {P : Program} {E : Env} (hE : EnvOk P E) {C : Orc} (hC : OrcOk P E C) {ops : Array Oper} {i : Nat} {o : Oper} (hget : ops[i]? = some o) {w0 : Base} {w : World} {st : St} {a : Act} {ts : List (Array Value)} {R : Cx} {k : Unit → St → Prop} {K : Act → World → Prop} {Q : Exit → Act → World → Prop}
    (h : Rel w0 st (a.tmps :: ts) R w) (hw : (evG E ops.toList o).wp C st k) (hn : ∀ (a' : Act) (st' : St) (R' : Cx) (w' : World), a'.defers = a.defers → Rel w0 st' (a'.tmps :: ts) R' w' → k () st' → K a' w') :
    wpOp P ops Q i K a w := by
  simp only [wpOp, hget]
  simp only [evG] at hw
  cases hg : o.guard with
  | none =>
    rw [hg] at hw
    rw [if_pos (by simp [Region.wanted, hg])]
    exact .inl (opOk hE hC o w0 st a ts R w _ _ Q h hw hn)
  | some jw =>
    obtain ⟨j, want⟩ := jw
    rw [hg] at hw
    simp only at hw
    split at hw
    · rename_i t ht
      rw [M.wp_rd] at hw
      obtain ⟨s, hs, hw⟩ := hw
      split at hw
      · rename_i b hb
        have hsv := h.slot 0 t s _ hs rfl
        rw [hb] at hsv
        have hval := SV_bool hsv
        have hlt := h.size_lt hs
        have hy : yielded ops a.tmps j = some b := by
          have ht' : ((ops[j]?).bind (·.dst)) = some t := by rw [← Array.getElem?_toList]; exact ht
          have hv' : a.tmps[t]? = some (.bool b) := by
            rw [Array.getD_eq_getD_getElem?] at hval
            rw [Array.getElem?_eq_getElem hlt] at hval ⊢
            simpa using hval
          simp only [yielded, ht', Option.bind_some, hv']
        by_cases hbw : (b == want) = true
        · simp only [M.wp, hbw, cond_true] at hw
          have hbe : b = want := by simpa using hbw
          rw [if_pos (by simp [Region.wanted, hg, hy, hbe])]
          exact .inl (opOk hE hC o w0 st a ts R w _ _ Q h hw hn)
        · have hbw' : (b == want) = false := by simpa using hbw
          simp only [M.wp, hbw', cond_false] at hw
          have hnw : ¬ Region.wanted o (yielded ops a.tmps) = true := by
            simp only [Region.wanted, hg, hy]
            intro e
            have : b = want := by simpa using e
            rw [this] at hbw'; simp at hbw'
          rw [if_neg hnw]
          obtain ⟨st1, R1, hk, h1⟩ := dstT_ok h hw (j := 0) (val := undef) skip_SV
          exact hn _ st1 R1 w (put_defers _ _ _) h1 hk
      · rename_i hb
        have hsv := h.slot 0 t s _ hs rfl
        rw [hb] at hsv
        have hval := SV_skip hsv
        have hlt := h.size_lt hs
        have hy : yielded ops a.tmps j = none := by
          have ht' : ((ops[j]?).bind (·.dst)) = some t := by rw [← Array.getElem?_toList]; exact ht
          have hv' : a.tmps[t]? = some (.tuple #[]) := by
            rw [Array.getD_eq_getD_getElem?] at hval
            rw [Array.getElem?_eq_getElem hlt] at hval ⊢
            simpa using hval
          simp only [yielded, ht', Option.bind_some, hv']
        have hnw : ¬ Region.wanted o (yielded ops a.tmps) = true := by simp [Region.wanted, hg, hy]
        rw [if_neg hnw]
        obtain ⟨st1, R1, hk, h1⟩ := dstT_ok h hw (j := 0) (val := undef) skip_SV
        exact hn _ st1 R1 w (put_defers _ _ _) h1 hk
      · exact hw.elim
    · exact hw.elim

theorem split_at {L : List (Nat × Lg)} {i : Nat} (h : i ∈ L.map (·.1)) : ∃ pre l post, L = pre ++ (i, l) :: post := by
  rw [List.mem_map] at h
  obtain ⟨⟨j, l⟩, hm, rfl⟩ := h
  obtain ⟨pre, post, e⟩ := List.append_of_mem hm
  exact ⟨pre, l, post, e⟩

theorem draw_any {P : Program} {E : Env} (hE : EnvOk P E) {C : Orc} (hC : OrcOk P E C) {ops : Array Oper} {ms : List Nat} (hms : masksOk ms 0 ops.toList = true) {md : Region.Mode} {rk : Nat → Nat} (hrk : rankOk md rk ops.size 0 ops.toList = true) {w0 : Base} {ts : List (Array Value)} {Q : Exit → Act → World → Prop} {d : List Deferred} {st' : St} : 
    ∀ (fuel : Nat) (L : List (Nat × Lg)) (listed : Array Bool) {st : St} {a : Act} {R : Cx} {w : World}, L.length = fuel → listed.size = ops.size → (∀ n, n < ops.size → (n ∈ L.map (·.1) ↔ listed.getD n true = false)) → (L.map (·.1)).Nodup →
      L.Pairwise (fun y x => (ms.getD x.1 0).testBit y.1 = true ∨ y.2.apart x.2 = true) → (∀ x ∈ L, x.1 < ops.size) →
      (∀ n, n < ops.size → listed.getD n true = true → ∀ j, (ms.getD n 0).testBit j = true → listed.getD j false = true) →
      Rel w0 st (a.tmps :: ts) R w → a.defers = d → Chain E C ops.toList L st st' →
      (∀ (a' : Act) (R' : Cx) (w' : World), a'.defers = d → Rel w0 st' (a'.tmps :: ts) R' w' → Q .normal a' w') → wpAny P md ops Q fuel listed a w := by
  have spec : ∀ (n : Nat) (o : Oper), ops[n]? = some o → ms.getD n 0 = maskOf ms o ∧ ∀ e ∈ o.after.toList, Region.binds .any e = true → e.on < n :=
    fun n o ho => masks_spec (ops := ops.toList) (i := 0) rfl hms n o (Nat.zero_le _) (by simpa using ho)
  have rspec : ∀ (n : Nat) (o : Oper), ops[n]? = some o → ∀ e ∈ o.after.toList, Region.binds md e = true → e.on < ops.size ∧ rk e.on < rk n :=
    fun n o ho => rank_spec (ops := ops.toList) (i := 0) rfl hrk n o (Nat.zero_le _) (by simpa using ho)
  intro fuel
  induction fuel with
  | zero =>
    intro L listed st a R w hl hsz hmem hnd hpw hlt hcl h hd hc hq
    cases L with
    | cons => simp at hl
    | nil =>
      cases hc
      refine ⟨?_, hq a R w hd h⟩
      cases hr : Region.ready md ops listed with
      | nil => rfl
      | cons i r =>
        have : i ∈ Region.ready md ops listed := by rw [hr]; simp
        obtain ⟨h1, h2, _⟩ := mem_ready.1 this
        have := (hmem i h1).2 h2
        simp at this
  | succ fuel ih =>
    intro L listed st a R w hl hsz hmem hnd hpw hlt hcl h hd hc hq
    refine ⟨fun hr => ?_, fun i hi => ?_⟩
    · exfalso
      -- the least one that is not listed is ready
      have : ∀ m n, rk n = m → n < ops.size → listed.getD n true = true := by
        intro m
        induction m using Nat.strongRecOn with
        | _ m ihn =>
          intro n hm hn
          cases e : listed.getD n true with
          | true => rfl
          | false =>
            have : n ∈ Region.ready md ops listed := by
              refine mem_ready.2 ⟨hn, e, ops[n], by simp [hn], fun x hx hxb => ?_⟩
              obtain ⟨hx1, hx'⟩ := rspec n ops[n] (by simp [hn]) x hx hxb
              have := ihn (rk x.on) (by omega) x.on rfl hx1
              rw [Array.getD_eq_getD_getElem?] at this ⊢
              rw [Array.getElem?_eq_getElem (by omega)] at this ⊢
              simpa using this
            rw [hr] at this; simp at this
      cases L with
      | nil => simp at hl
      | cons x L =>
        have hx := hlt x (by simp)
        have e1 := (hmem x.1 hx).1 (by simp)
        rw [this _ x.1 rfl hx] at e1; simp at e1
    · obtain ⟨hi1, hi2, o, ho, hedge⟩ := mem_ready.1 hi
      have hm := (hmem i hi1).2 hi2
      obtain ⟨pre, l, post, rfl⟩ := split_at hm
      obtain ⟨sp1, sp2⟩ := spec i o ho
      -- what stands ahead of it is listed
      have ahead : ∀ j, (ms.getD i 0).testBit j = true → listed.getD j false = true := by
        intro j hj
        rw [sp1] at hj
        obtain ⟨e, he, hb, hj⟩ := maskOf_spec hj
        have hl1 := hedge e he (binds_any hb)
        have hon := sp2 e he hb
        rcases hj with rfl | hj
        · exact hl1
        · refine hcl e.on (by omega) ?_ j hj
          rw [Array.getD_eq_getD_getElem?] at hl1 ⊢
          rw [Array.getElem?_eq_getElem (by omega)] at hl1 ⊢
          simpa using hl1
      have hpre : ∀ x ∈ pre, x.2.apart l = true := by
        intro x hx
        have := (List.pairwise_append.1 hpw).2.2 x hx (i, l) (by simp)
        rcases this with hb | hb
        · have h1 := ahead x.1 hb
          have hxl := hlt x (by simp [hx])
          have h2 := (hmem x.1 hxl).1 (List.mem_map.2 ⟨x, by simp [hx], rfl⟩)
          rw [Array.getD_eq_getD_getElem?] at h1 h2
          rw [Array.getElem?_eq_getElem (by omega)] at h1 h2
          simp at h1 h2
          rw [h1] at h2; simp at h2
        · exact hb
      obtain ⟨o', st1, ho', hrun, hc'⟩ := chain_front hc hpre
      have : o' = o := by
        have : ops.toList[i]? = some o := by simpa using ho
        rw [this] at ho'; exact (Option.some.inj ho').symm
      subst this
      have hndm : (List.map (·.1) (pre ++ (i, l) :: post)).Nodup := hnd
      refine evG_ok hE hC ho h (run_wp _ hrun) ?_
      rintro a' s R' w' hdf h' ⟨_, rfl⟩
      refine ih (pre ++ post) (listed.setIfInBounds i true) (by simp at hl ⊢; omega) (by simp [hsz]) ?_ ?_ ?_ ?_ ?_ h' (hdf.trans hd) hc' hq
      · intro n hn
        simp only [List.map_append, List.map_cons] at hmem hndm
        have hnot : i ∉ pre.map (·.1) ++ post.map (·.1) := by
          have := (List.perm_middle.nodup_iff).1 hndm
          exact (List.nodup_cons.1 this).1
        by_cases hni : n = i
        · subst hni
          simp only [List.map_append]
          refine ⟨fun e => absurd e hnot, fun e => ?_⟩
          rw [Array.getD_eq_getD_getElem?, Array.getElem?_setIfInBounds] at e
          simp [hsz, hn] at e
        · have e1 := hmem n hn
          have e2 : (listed.setIfInBounds i true).getD n true = listed.getD n true := by
            rw [Array.getD_eq_getD_getElem?, Array.getD_eq_getD_getElem?, Array.getElem?_setIfInBounds_ne (fun e => hni e.symm)]
          rw [e2, ← e1]
          simp [hni]
      · simp only [List.map_append, List.map_cons] at hndm ⊢
        exact (List.nodup_cons.1 ((List.perm_middle.nodup_iff).1 hndm)).2
      · have := List.pairwise_append.1 hpw
        refine List.pairwise_append.2 ⟨this.1, (List.pairwise_cons.1 this.2.1).2, fun x hx y hy => this.2.2 x hx y (by simp [hy])⟩
      · intro x hx
        refine hlt x ?_
        rcases List.mem_append.1 hx with hx | hx
        · simp [hx]
        · simp [hx]
      · intro n hn hl' j hj
        have up : ∀ j, listed.getD j false = true → (listed.setIfInBounds i true).getD j false = true := by
          intro j hj
          rw [Array.getD_eq_getD_getElem?] at hj ⊢
          by_cases hji : i = j
          · subst hji
            rw [Array.getElem?_setIfInBounds_self]
            simp [hsz, hi1]
          · rw [Array.getElem?_setIfInBounds_ne hji]; exact hj
        by_cases hni : n = i
        · subst hni
          exact up j (ahead j hj)
        · rw [Array.getD_eq_getD_getElem?, Array.getElem?_setIfInBounds_ne (fun e => hni e.symm), ← Array.getD_eq_getD_getElem?] at hl'
          exact up j (hcl n hn hl' j hj)

theorem Rel.drew {w0 : Base} {w : World} {st : St} {ts : List (Array Value)} {R : Cx} (h : Rel w0 st ts R w) (n : Nat) : Rel w0 st ts R { w with drawn := n } := by
  refine ⟨h.hh, h.fl, h.len, h.sz, h.slot, h.box, h.inj, h.zd, h.lo, h.lt, h.zlt, ?_, h.zlo⟩
  have := h.bel
  exact ⟨this.os, this.tape, this.output, this.size, this.block⟩

theorem evDraw_ok {P : Program} {E : Env} (hE : EnvOk P E) {C : Orc} (hC : OrcOk P E C) {id : Nat} {ops : Array Oper} {ms : List Nat} (hok : drawOk ops.toList ms = true) {w0 : Base} {ts : List (Array Value)} {d : List Deferred} {st : St} {a : Act} {R : Cx} {w : World} {k : St → Prop} {Q : Exit → Act → World → Prop}
    (h : Rel w0 st (a.tmps :: ts) R w) (hd : a.defers = d) (hw : evDraw E C ops.toList ms 0 [] ops.toList st k) (hq : ∀ st' a' R' w', k st' → a'.defers = d → Rel w0 st' (a'.tmps :: ts) R' w' → Q .normal a' w') : (Code.region id ops true).wp P Q a w := by
  obtain ⟨L, st', h1, h2, h3, _, h5⟩ := evDraw_chain ops.toList 0 [] st rfl hw
  refine wp_region_draw fun t => ?_
  have hlen : L.length = ops.size := by
    have := congrArg List.length h1
    simpa using this
  simp only [drawOk, Bool.and_eq_true] at hok
  obtain ⟨⟨hms, htext⟩, hgc⟩ := hok
  have all : ∀ md rk, rankOk md rk ops.size 0 ops.toList = true → ∀ t, wpOps P ops Q (Region.linearise md ops t) a { w with drawn := w.drawn + 1 } := by
    intro md rk hrk t
    refine wpAny_sound (md := md) ops.size t _ a _ ?_
    refine draw_any hE hC hms hrk ops.size L _ hlen (by simp) ?_ ?_ h5 ?_ ?_ (h.drew _) hd h2 (fun a' R' w' hd' h' => hq st' a' R' w' h3 hd' h')
    · intro n hn
      rw [h1]
      simp [Array.getD_eq_getD_getElem?, hn]
    · rw [h1]; exact List.nodup_range'
    · intro x hx
      have : x.1 ∈ L.map (·.1) := List.mem_map.2 ⟨x, hx, rfl⟩
      rw [h1] at this
      simpa using this
    · intro n hn e
      simp [Array.getD_eq_getD_getElem?, hn] at e
  have hany : rankOk .any (fun i => i) ops.size 0 ops.toList = true := by
    have key : ∀ (r : List Oper) (i : Nat), rankOk .text (fun i => i) ops.toList.length i r = true → rankOk .any (fun i => i) ops.size i r = true := by
      intro r
      induction r with
      | nil => intro i _; rfl
      | cons o r ih =>
        intro i h
        simp only [rankOk, Bool.and_eq_true] at h ⊢
        refine ⟨List.all_eq_true.2 fun e he => ?_, ih _ h.2⟩
        have := List.all_eq_true.1 h.1 e he
        cases hb : Region.binds .any e with
        | false => rfl
        | true => rw [binds_any hb] at this; simpa using this
    exact key _ _ htext
  unfold Region.schedule
  split
  · exact all _ _ hany _
  · split
    · exact all _ _ (by simpa using htext) _
    · exact all _ _ (by simpa using hgc) _

end Go.Proofs.Ytlndfmmigndgeaa.Ev

/- Steps of the telling alone: the machine does nothing. -/
namespace Go.Proofs.Ytlndfmmigndgeaa.Ev
open Go
set_option linter.unusedSimpArgs false
set_option linter.unusedVariables false

theorem stealT_ok {C : Orc} {w0 : Base} {w : World} {st : St} {a : Act} {ts : List (Array Value)} {R : Cx} (h : Rel w0 st (a.tmps :: ts) R w) {t : Nat} {k : Unit → St → Prop} (hw : (stealT t).wp C st k) :
    ∃ st1 R1, k () st1 ∧ Rel w0 st1 (a.tmps :: ts) R1 w := by
  unfold stealT at hw
  rw [M.wp_bind] at hw
  replace hw := takeOp_ok h hw 1
  obtain ⟨v, st1, R1, hw, h1, hl1, hh1, hk1, hv⟩ := hw
  rw [M.wp_bind] at hw
  rw [← hh1 1] at hv
  obtain ⟨u, st2, R2, hw, h2, hl2, hh2, hk2, hu⟩ := resolve_SV h1 hv hw
  rw [← hh2 1] at hu
  obtain ⟨st3, R3, hk, h3⟩ := putV_ok h2 hw hu
  refine ⟨st3, R3, hk, ?_⟩
  have e : (a.put (some t) (a.eval (.tmp t))).tmps = a.tmps := by
    rw [Act.put_some, getD_eval]
    refine Array.ext (by simp) ?_
    intro i h1 h2
    rw [Array.getElem_setIfInBounds]
    · split
      · rename_i e; subst e; simp [Array.getD, h2]
      · rfl
  rwa [e] at h3

open Classical in
theorem Rel.freezeIn {w0 : Base} {w : World} {st : St} {t0 : Array Value} {ts : List (Array Value)} {R : Cx} (h : Rel w0 st (t0 :: ts) R w) {t : Nat} {s2 : Slot} (hg : (st.scrub t true [.r 0]).get 0 t = some s2)
    {v : AV} (hb : s2.b = .pair .unit v) {pk : Pk} (hp : v.pack = some pk) :
    ∃ R', Rel w0 ((st.scrub t true [.r 0]).set 0 t { s2 with b := .pair .unit (.d pk.s pk.x) }) (t0 :: ts) R' w := by
  obtain ⟨s, hg0, hlev, hleb, hhv, hhb⟩ := scrub_slot_hits hg
  have hN : 0 < st.length := St.get_lt hg0
  let B : Key := ⟨st.length - 1, t, true, [.r 0]⟩
  have hB : B.under (st.kb 0 t) := ⟨by simp [B, St.kb], rfl, rfl, List.nil_suffix⟩
  have hBe : (st.kb 0 t).child (.r 0) = B := by simp [B, St.kb, Key.child]
  have hnB : ¬ (st.kb 0 t).under B := by
    rintro ⟨_, _, _, e⟩
    have := e.length_le
    simp [B, St.kb] at this
  -- what the box is
  have hbox : BoxR R s2.b (st.kb 0 t) := BoxR.frame hleb (.refl _ _) (fun T _ e => ⟨e, .refl _ _⟩) (h.box 0 t s hg0)
  rw [hb] at hbox
  obtain ⟨b, arr, el, hρ, hh, hc⟩ : ∃ b arr el, R.ρ (st.kb 0 t) = some (.blk b 0) ∧ R.h[b]? = some (.cells arr el (0, 0)) ∧ VR R (.pair .unit v) (st.kb 0 t) arr.toList := by
    rcases hbox with e | e
    · cases e
    · exact e
  obtain ⟨c1, c2, e, h1, h2⟩ := hc
  have h1 : c1 = [] := h1
  subst h1
  have h2 : VR R v B c2 := by rw [← hBe]; exact h2
  let st' := (st.scrub t true [.r 0]).set 0 t { s2 with b := .pair .unit (.d pk.s pk.x) }
  let R' : Cx := { R with ρ := fun K => if K.under B then none else R.ρ K, Z := fun b' => R.Z b' ∨ ∃ K n, K.under B ∧ R.ρ K = some (.blk b' n) }
  have sb : ∀ {K b' n}, R'.ρ K = some (.blk b' n) → ¬ K.under B ∧ R.ρ K = some (.blk b' n) := by
    intro K b' n e
    simp only [R'] at e
    split at e
    · cases e
    · rename_i hk; exact ⟨hk, e⟩
  have off : ∀ T, ¬ T.under B → R'.ρ T = R.ρ T := fun T hT => if_neg hT
  have ok : ∀ K a, K.apart B → (∀ T, a.hits K T → ¬ T.under B) → R.Ok R' K a := by
    intro K a h1 h2
    exact ⟨⟨fun _ => .inl, fun _ _ _ => id, fun T hT => off T (h1 T hT), fun _ _ _ _ _ _ => id⟩, fun T hT e => ⟨e, .inr ⟨off T (h2 T hT), fun b n arr el _ e => ⟨arr, e, rfl⟩⟩⟩⟩
  have hflag : ∀ bx, ({ s2 with b := .pair .unit (.d pk.s pk.x) } : Slot).flag bx = s2.flag bx := by intro bx; cases bx <;> rfl
  have hdr : DR R'.Z R'.h pk.s pk.x c2 := ((pack_VR (R := R) _ _ hp _ _).1 h2).freeze (R := R) (Z' := R'.Z) (fun b hb => .inl hb) (fun T b n hT hr => .inr ⟨T, n, hT, hr⟩)
  refine ⟨R', h.step1 (st' := st') (R' := R') (by simp [st', St.length_set, St.length_scrub]) (fun i => by simp only [st', St.frames_set, St.frames_scrub]) rfl h.hh ?_ ?_ ?_ ?_ ?_ ?_ ?_ ?_ h.bel ?_⟩
  · intro lv n bx
    show R.fl lv n bx = st'.fl lv n bx
    rw [h.fl, ← St.fl_scrub st t true [.r 0] lv n bx]
    exact (St.fl_set_same hg hflag lv n bx).symm
  · intro i n sl' hsl
    have key : ∃ sl1, (st.scrub t true [.r 0]).get i n = some sl1 ∧ sl'.v = sl1.v := by
      simp only [st', St.get_set] at hsl
      split at hsl
      · rename_i hc
        obtain ⟨rfl, rfl⟩ := hc
        rw [hg] at hsl
        simp only [Option.map_some, Option.some.injEq] at hsl
        subst hsl
        exact ⟨s2, hg, rfl⟩
      · exact ⟨sl', hsl, rfl⟩
    obtain ⟨sl1, hs1, hv1⟩ := key
    obtain ⟨sl0, h0, hle, _, hh', _⟩ := scrub_slot_hits hs1
    rw [hv1]
    exact ⟨sl0, h0, .inl ⟨hle, fun _ => rfl, ok _ _ (fun T hT hT' => kb_kv_apart st 0 t i n T (Key.under_trans hT' hB) hT) hh'⟩⟩
  · intro i n sl' hsl
    simp only [st', St.get_set] at hsl
    split at hsl
    · rename_i hc
      obtain ⟨rfl, rfl⟩ := hc
      rw [hg] at hsl
      simp only [Option.map_some, Option.some.injEq] at hsl
      subst hsl
      refine ⟨s, hg0, .inr (.inr ⟨b, arr, el, (off _ hnB).trans hρ, hh, [], c2, e, rfl, ?_⟩)⟩
      exact hdr
    · rename_i hc
      obtain ⟨sl0, h0, _, hle, _, hh'⟩ := scrub_slot_hits hsl
      exact ⟨sl0, h0, .inl ⟨hle, ok _ _ (fun T hT hT' => kb_apart (St.get_lt h0) hN hc T hT (Key.under_trans hT' hB)) hh'⟩⟩
  · intro K K' b1 n m e1 e2; exact h.inj _ _ _ _ _ (sb e1).2 (sb e2).2
  · rintro b1 (hb1 | ⟨K1, n1, hK1, e1⟩) K n e
    · exact h.zd b1 hb1 K n (sb e).2
    · exact (sb e).1 (h.inj _ _ _ _ _ e1 (sb e).2 ▸ hK1)
  · intro K b1 n e; exact h.lo _ _ _ (sb e).2
  · intro K b1 n e; exact h.lt _ _ _ (sb e).2
  · rintro b1 (hb1 | ⟨K1, n1, hK1, e1⟩)
    · exact h.zlt b1 hb1
    · exact h.lt _ _ _ e1
  · rintro b1 (hb1 | ⟨K1, n1, hK1, e1⟩)
    · exact .inl hb1
    · exact .inr (h.lo _ _ _ e1)

theorem freezeIn_ok {C : Orc} {w0 : Base} {w : World} {st : St} {t0 : Array Value} {ts : List (Array Value)} {R : Cx} (h : Rel w0 st (t0 :: ts) R w) {t : Nat} {k : Unit → St → Prop} (hw : (Ev.freezeIn t).wp C st k) : ∃ st1 R1, k () st1 ∧ Rel w0 st1 (t0 :: ts) R1 w := by
  unfold Ev.freezeIn at hw
  have hw : ((M.rd 0 t fun s => match s.b with
    | .pair .unit v => (match v.pack with
      | some w => .wr 0 t { s with b := .pair .unit (.d w.s w.x) } (.pure ())
      | none => .fail)
    | _ => .fail) : M Unit).wp C (st.scrub t true [.r 0]) k := hw
  rw [M.wp_rd] at hw
  obtain ⟨s2, hs2, hw⟩ := hw
  split at hw
  · rename_i v hb
    split at hw
    · rename_i pk hp
      rw [M.wp_wr] at hw
      obtain ⟨R1, h1⟩ := h.freezeIn hs2 hb hp
      exact ⟨_, R1, hw.2, h1⟩
    · exact hw.elim
  · exact hw.elim

theorem evGhosts_ok {C : Orc} {w0 : Base} {w : World} {a : Act} {ts : List (Array Value)} : ∀ {l : List Nat} {st : St} {R : Cx} (h : Rel w0 st (a.tmps :: ts) R w) {k : St → Prop}, evGhosts C l st k → ∃ st1 R1, k st1 ∧ Rel w0 st1 (a.tmps :: ts) R1 w := by
  intro l
  induction l with
  | nil => intro st R h k hw; exact ⟨st, R, hw, h⟩
  | cons n r ih =>
    intro st R h k hw
    simp only [evGhosts] at hw
    cases hb : Nat.ble n 999 with
    | true =>
      rw [hb] at hw
      obtain ⟨st1, R1, hk, h1⟩ := stealT_ok h hw
      exact ih h1 hk
    | false =>
      rw [hb] at hw
      cases hb2 : Nat.ble n 1999 with
      | true =>
        rw [hb2] at hw
        obtain ⟨st1, R1, hk, h1⟩ := freezeIn_ok h hw
        exact ih h1 hk
      | false =>
        rw [hb2] at hw
        have hw : (forgetT (n - 2000)).wp C st fun _ st' => evGhosts C r st' k := hw
        simp only [forgetT, M.wp_rd] at hw
        obtain ⟨s, hs, hw⟩ := hw
        rw [M.wp_wr] at hw
        exact ih (h.forget hs) hw.2

end Go.Proofs.Ytlndfmmigndgeaa.Ev

/- Code. -/
namespace Go.Proofs.Ytlndfmmigndgeaa.Ev
open Go
set_option linter.unusedSimpArgs false
set_option linter.unusedVariables false

theorem strike_le (keep : List Nat) (a : AV) : (a.strike keep).le a := by
  induction a with
  | pair a b iha ihb => exact ⟨iha, ihb⟩
  | tup a ih => exact ih
  | fn f a ih => exact ⟨rfl, ih⟩
  | vw q e => simp only [AV.strike]; split <;> simp [AV.le]
  | sub q e lo n => simp only [AV.strike]; split <;> simp [AV.le]
  | ptr q => simp only [AV.strike]; split <;> simp [AV.le]
  | _ => simp [AV.le, AV.strike]

theorem strike_hits {keep : List Nat} : ∀ {a : AV} {K T : Key}, (a.strike keep).hits K T → T.lv = K.lv → keep.contains T.s = true := by
  have one : ∀ {q : Pl} {K : Key}, goneR keep q.r = false → (K.at q).lv = K.lv → q.r.k ≤ K.lv → keep.contains (K.at q).s = true := by
    intro q K hg hl hk
    simp only [Key.at] at hl
    have : q.r.k = 0 := by omega
    simp only [goneR, this, beq_self_eq_true, Bool.true_and, Bool.not_eq_false'] at hg
    exact hg
  intro a
  induction a with
  | vw q e =>
    intro K T h hl
    simp only [AV.strike] at h
    split at h
    · exact h.elim
    · rename_i hg; obtain ⟨rfl, hk⟩ := h; exact one (by simpa using hg) hl hk
  | sub q e lo n =>
    intro K T h hl
    simp only [AV.strike] at h
    split at h
    · exact h.elim
    · rename_i hg; obtain ⟨rfl, hk⟩ := h; exact one (by simpa using hg) hl hk
  | ptr q =>
    intro K T h hl
    simp only [AV.strike] at h
    split at h
    · exact h.elim
    · rename_i hg; obtain ⟨rfl, hk⟩ := h; exact one (by simpa using hg) hl hk
  | pair a b iha ihb =>
    intro K T h hl
    rcases h with h | h
    · exact iha h hl
    · exact ihb h hl
  | tup a ih => intro K T h hl; exact ih h hl
  | fn f a ih => intro K T h hl; exact ih h hl
  | _ => intro K T h; exact h.elim

theorem gcFrm_get (keep : List Nat) : ∀ (f : Frm) (i n : Nat), (gcFrm keep i f)[n]? = (f[n]?).map fun s => if keep.contains (i + n) then { s with v := s.v.strike keep, b := s.b.strike keep } else ⟨.undef, .undef, false, false⟩ := by
  intro f
  induction f with
  | nil => intro i n; simp [gcFrm]
  | cons s r ih =>
    intro i n
    cases n with
    | zero => simp [gcFrm]
    | succ n =>
      simp only [gcFrm, List.getElem?_cons_succ, ih]
      have : i + 1 + n = i + (n + 1) := by omega
      rw [this]

theorem gcFrm_length (keep : List Nat) : ∀ (f : Frm) (i : Nat), (gcFrm keep i f).length = f.length := by
  intro f
  induction f with
  | nil => intro i; rfl
  | cons s r ih => intro i; simp only [gcFrm, List.length_cons, ih]

theorem gc_get (keep : List Nat) (st : St) (i n : Nat) : (st.gc keep).get i n = if i = 0 then (st.get 0 n).map fun s => if keep.contains n then { s with v := s.v.strike keep, b := s.b.strike keep } else ⟨.undef, .undef, false, false⟩ else st.get i n := by
  cases st with
  | nil => simp [St.gc, St.get]
  | cons f o =>
    cases i with
    | zero => simp [St.gc, St.get, gcFrm_get]
    | succ i => simp [St.gc, St.get]

theorem gc_length (keep : List Nat) (st : St) : (st.gc keep).length = st.length := by cases st <;> rfl

theorem Rel.gc {w0 : Base} {w : World} {st : St} {ts : List (Array Value)} {R : Cx} (h : Rel w0 st ts R w) (keep : List Nat) : ∃ R', Rel w0 (st.gc keep) ts R' w := by
  let R' : Cx := { R with fl := (st.gc keep).fl }
  have hfl : ∀ T : Key, R.fl T.lv T.s T.bx = true → (T.lv = st.length - 1 → keep.contains T.s = true) → R'.fl T.lv T.s T.bx = true := by
    intro T e hk
    rw [h.fl] at e
    simp only [R', St.fl, gc_length, gc_get] at e ⊢
    simp only [Bool.and_eq_true, decide_eq_true_eq] at e ⊢
    refine ⟨e.1, ?_⟩
    by_cases hc : st.length - 1 - T.lv = 0
    · rw [if_pos hc]
      have hl : T.lv = st.length - 1 := by have := e.1; omega
      have e2 := e.2
      rw [hc] at e2
      cases hg : st.get 0 T.s with
      | none => rw [hg] at e2; simp at e2
      | some s =>
        rw [hg] at e2
        simp only [Option.map_some, if_pos (hk hl)]
        cases hb : T.bx <;> rw [hb] at e2 <;> exact e2
    · rw [if_neg hc]; exact e.2
  have ok : ∀ K b, (∀ T : Key, b.hits K T → T.lv = st.length - 1 → keep.contains T.s = true) → R.Ok R' K b := by
    intro K b hk
    exact ⟨⟨fun _ => id, fun _ _ _ => id, fun _ _ => rfl, fun _ _ _ _ _ _ => id⟩, fun T hT e => ⟨hfl T e (hk T hT), .inr ⟨rfl, fun b n arr el _ e => ⟨arr, e, rfl⟩⟩⟩⟩
  refine ⟨R', h.step2 (gc_length ..) ?_ h.hh (fun _ _ _ => rfl) ?_ ?_ h.inj h.zd h.lo h.lt h.zlt h.bel⟩
  · intro i
    cases st with
    | nil => rfl
    | cons f o => cases i <;> simp [St.gc, gcFrm_length]
  · intro i n sl' hg
    rw [gc_get] at hg
    split at hg
    · rename_i hi
      subst hi
      cases hs : st.get 0 n with
      | none => rw [hs] at hg; simp at hg
      | some s =>
        rw [hs] at hg
        simp only [Option.map_some, Option.some.injEq] at hg
        subst hg
        refine ⟨s, rfl, ?_⟩
        split
        · exact .inl ⟨strike_le _ _, ok _ _ (fun T hT hl => strike_hits hT (by rw [hl]; simp [St.kv]))⟩
        · exact .inr (fun _ _ => trivial)
    · rename_i hi
      refine ⟨sl', hg, .inl ⟨AV.le_refl _, ok _ _ (fun T hT hl => ?_)⟩⟩
      have := hits_lv_le hT
      have := St.get_lt hg
      simp only [St.kv] at *
      omega
  · intro i n sl' hg
    rw [gc_get] at hg
    split at hg
    · rename_i hi
      subst hi
      cases hs : st.get 0 n with
      | none => rw [hs] at hg; simp at hg
      | some s =>
        rw [hs] at hg
        simp only [Option.map_some, Option.some.injEq] at hg
        subst hg
        refine ⟨s, rfl, ?_⟩
        split
        · exact .inl ⟨strike_le _ _, ok _ _ (fun T hT hl => strike_hits hT (by rw [hl]; simp [St.kb]))⟩
        · exact .inr (.inl rfl)
    · rename_i hi
      refine ⟨sl', hg, .inl ⟨AV.le_refl _, ok _ _ (fun T hT hl => ?_)⟩⟩
      have := hits_lv_le hT
      have := St.get_lt hg
      simp only [St.kb] at *
      omega

def exOf : Ex → Exit
  | .normal => .normal
  | .exit id => .exit id
  | .ret => .ret

/-- A loop, from its body on. -/
def LoopWp (P : Program) (c : Code) (Q : Exit → Act → World → Prop) (a : Act) (w : World) : Prop :=
  ∀ (b : Frame) (k : List Item) (cs : List Frame), ∃ e a' w', Q e a' w' ∧ Arrives P (lone (b.at a (.code c :: .inLoop c :: k)) cs w) b k cs e a' w'

theorem LoopWp.loop {P : Program} {c : Code} {Q : Exit → Act → World → Prop} {a : Act} {w : World} (h : LoopWp P c Q a w) : (Code.loop c).wp P Q a w := by
  intro b k cs
  obtain ⟨e, a', w', hq, harr⟩ := h b k cs
  exact ⟨e, a', w', hq, .of_steps (.one step_loop) harr⟩

theorem LoopWp.round {P : Program} {c : Code} {Q : Exit → Act → World → Prop} {a : Act} {w : World} (h : c.wp P (Exit.then (fun a' w' => LoopWp P c Q a' w') Q) a w) : LoopWp P c Q a w := by
  intro b k cs
  obtain ⟨e, a₁, w₁, hq, harr⟩ := h b (.inLoop c :: k) cs
  cases e with
  | normal =>
    obtain ⟨e₂, a₂, w₂, hq₂, harr₂⟩ := hq b k cs
    exact ⟨e₂, a₂, w₂, hq₂, .of_steps (Steps.trans harr (.one step_inLoop)) harr₂⟩
  | exit id => exact ⟨_, a₁, w₁, hq, .pass (x := .inLoop c) rfl (fun _ _ => .inl (by simp)) harr⟩
  | goto l => exact ⟨_, a₁, w₁, hq, .pass (x := .inLoop c) rfl (fun _ _ => .inl (by simp)) harr⟩
  | ret => exact ⟨_, a₁, w₁, hq, .pass (x := .inLoop c) rfl (fun _ _ => .inl (by simp)) harr⟩
  | panic ch => exact ⟨_, a₁, w₁, hq, .pass (x := .inLoop c) rfl (fun _ _ => .inl (by simp)) harr⟩
  | outgrown => exact ⟨_, a₁, w₁, hq, .pass (x := .inLoop c) rfl (fun _ _ => .inl (by simp)) harr⟩

theorem evCode_ok {P : Program} {E : Env} (hE : EnvOk P E) {C : Orc} (hC : OrcOk P E C) {keep : Nat → List Nat} {w0 : Base} {ts : List (Array Value)} (d : List Deferred) : ∀ (c : Code) {st : St} {a : Act} {R : Cx} {w : World} {k : Ex → St → Prop} {Q : Exit → Act → World → Prop},
    Rel w0 st (a.tmps :: ts) R w → a.defers = d → evCode E C keep c st k → (∀ e st' a' R' w', k e st' → a'.defers = d → Rel w0 st' (a'.tmps :: ts) R' w' → Q (exOf e) a' w') → c.wp P Q a w := by
  intro c
  induction c with
  | skip => intro st a R w k Q h hd hw hq; exact wp_skip (hq .normal st a R w hw hd h)
  | region id ops dr =>
    intro st a R w k Q h hd hw hq
    cases dr with
    | true =>
      simp only [evCode] at hw
      cases hm : drawOk ops.toList (mkMasks ops.toList []) with
      | false => rw [hm] at hw; exact hw.elim
      | true =>
        rw [hm] at hw
        exact evDraw_ok hE hC hm h hd hw (fun st' a' R' w' hk hd' h' => by
          obtain ⟨st2, R2, hk2, h2⟩ := evGhosts_ok h' hk
          exact hq .normal st2 a' R2 w' hk2 hd' h2)
    | false =>
      refine wp_region ?_
      rw [List.range_eq_range']
      have := evOps_ok hE hC (ops := ops) ops.toList 0 rfl h hw (Q := Q) (fun a' st' R' w' hdf h' hk => by
        obtain ⟨st2, R2, hk2, h2⟩ := evGhosts_ok h' hk
        exact hq .normal st2 a' R2 w' hk2 (hdf.trans hd) h2)
      simpa using this
  | seq x y ihx ihy =>
    intro st a R w k Q h hd hw hq
    refine wp_seq (ihx h hd hw ?_)
    intro e st' a' R' w' hk hd' h'
    cases e with
    | normal =>
      have hk : st'.forceK fun s => evCode E C keep y s k := hk
      rw [St.forceK_eq] at hk
      exact ihy h' hd' hk hq
    | exit id => exact hq (.exit id) st' a' R' w' hk hd' h'
    | ret => exact hq .ret st' a' R' w' hk hd' h'
  | cond cx x y ihx ihy =>
    intro st a R w k Q h hd hw hq
    obtain ⟨v, hk, ⟨K, hK, hv⟩, hq1, hq2⟩ := rawOp_ok h hw
    clear hq1 hq2
    split at hk
    · rename_i b
      have hc := SV_bool hv
      refine wp_cond hc ?_
      have hbb : b = true ∨ b = false := by cases (b : Bool) <;> simp
      rcases hbb with hb | hb <;> rw [hb] at hk ⊢
      · exact ihx h hd hk hq
      · exact ihy h hd hk hq
    · exact hk.elim
  | block id b ih =>
    intro st a R w k Q h hd hw hq
    refine wp_block (ih h hd hw ?_)
    intro e st' a' R' w' hk hd' h'
    cases e with
    | normal => exact hq .normal st' a' R' w' hk hd' h'
    | exit j =>
      simp only [exOf, Exit.inBlock]
      by_cases hj : j = id
      · simp only [hj, if_true] at hk ⊢; exact hq .normal st' a' R' w' hk hd' h'
      · simp only [hj, if_false] at hk ⊢; exact hq (.exit j) st' a' R' w' hk hd' h'
    | ret => exact hq .ret st' a' R' w' hk hd' h'
  | loop b ih =>
    intro st a R w k Q h hd hw hq
    refine LoopWp.loop ?_
    have key : ∀ (a : Act) (R : Cx) (w : World), Rel w0 (st.gc (keep (loopKey b))) (a.tmps :: ts) R w → a.defers = d → LoopWp P b Q a w := by
      refine hw.all (fun s => ∀ (a : Act) (R : Cx) (w : World), Rel w0 s (a.tmps :: ts) R w → a.defers = d → LoopWp P b Q a w) ?_
      intro s hs a R w h hd
      refine LoopWp.round (ih h hd hs ?_)
      intro e st' a' R' w' hk hd' h'
      cases e with
      | normal =>
        obtain ⟨R2, h2⟩ := h'.gc (keep (loopKey b))
        exact hk a' R2 w' h2 hd'
      | exit id => exact hq (.exit id) st' a' R' w' hk hd' h'
      | ret => exact hq .ret st' a' R' w' hk hd' h'
    obtain ⟨R2, h2⟩ := h.gc (keep (loopKey b))
    exact key a R2 w h2 hd
  | exit id => intro st a R w k Q h hd hw hq; exact wp_exit (hq (.exit id) st a R w hw hd h)
  | ret => intro st a R w k Q h hd hw hq; exact wp_ret (hq .ret st a R w hw hd h)
  | rangeFunc => intro st a R w k Q h hd hw hq; exact hw.elim
  | scope => intro st a R w k Q h hd hw hq; exact hw.elim
  | label => intro st a R w k Q h hd hw hq; exact hw.elim
  | goto => intro st a R w k Q h hd hw hq; exact hw.elim
  | refuse => intro st a R w k Q h hd hw hq; exact hw.elim

end Go.Proofs.Ytlndfmmigndgeaa.Ev

/- Results. -/
namespace Go.Proofs.Ytlndfmmigndgeaa.Ev
open Go
set_option linter.unusedSimpArgs false
set_option linter.unusedVariables false

/-- One result into a key of hand 0. -/
theorem retOne_ok {C : Orc} {E : Env} {w0 : Base} {w : World} {st : St} {t0 : Array Value} {ts : List (Array Value)} {R : Cx} (h : Rel w0 st (t0 :: ts) R w) {s : Sh} {t : Nat} {K : Key} (hK : st.isHand K) (hKs : K.s = (st.hand 0).s) {k : AV → St → Prop} (hw : (retOne E s (.tmp t)).wp C st k) :
    ∃ u st1 R1, k u st1 ∧ Rel w0 st1 (t0 :: ts) R1 w ∧ st1.length = st.length ∧ (∀ i, st1.hand i = st.hand i) ∧ (u.isBad = false → VV R1 u K (t0.getD t undef)) ∧
      (∀ (K' : Key) v' cs', st.isHand K' → K'.s = (st.hand 0).s → K'.apart K → VR R v' K' cs' → VR R1 v' K' cs') := by
  let a : Act := { tmps := t0, defers := [] }
  have h : Rel w0 st (a.tmps :: ts) R w := h
  simp only [retOne, M.wp_bind] at hw
  -- the slot's value into hand 1
  have hstart : ∃ v st1 R1, ((typed E.nest (some s) v).bind AV.resolve).wp C st1 k ∧ Rel w0 st1 (a.tmps :: ts) R1 w ∧ st1.length = st.length ∧ (∀ i, st1.hand i = st.hand i) ∧ SV R1 v (st.hand 1) (t0.getD t undef) ∧
      (∀ (K' : Key) v' cs', K'.under (st.hand 0) → VR R v' K' cs' → VR R1 v' K' cs') := by
    obtain ⟨v, st1, R1, hk, h1, hl, hh, hkept, hv⟩ := takeOp_keptU h hw 1 0 (by omega)
    exact ⟨v, st1, R1, by rw [M.wp_bind]; exact hk, h1, hl, hh, hv, fun K' v' cs' hu hv' => hkept K' v' cs' hu hv'⟩
  obtain ⟨v, st1, R1, hk, h1, hl1, hh1, hv, hkept⟩ := hstart
  have hand0 : ∀ K' : Key, st.isHand K' → K'.s = (st.hand 0).s → K'.under (st.hand 0) := fun K' a b => ⟨a.1, b, a.2.2, List.nil_suffix⟩
  -- from there into the key
  by_cases hb : v.isBad = true
  · -- nothing is known of it
    rw [M.wp_bind] at hk
    have hk' : k v st1 := by
      cases v <;> simp [AV.isBad] at hb <;> exact hk
    exact ⟨v, st1, R1, hk', h1, hl1, hh1, fun e => by rw [hb] at e; simp at e, fun K' v' cs' a b _ hv' => hkept K' v' cs' (hand0 K' a b) hv'⟩
  have hb : v.isBad = false := by simpa using hb
  obtain ⟨b1, b2⟩ := AV.notBad hb
  have hA := isHand_hand st 1
  have hA1 : st1.isHand (st.hand 1) := (isHand_of hl1 hh1).2 hA
  have hK1 : st1.isHand K := (isHand_of hl1 hh1).2 hK
  have h2 := h1.mvHands hA1 hK1
  have kept2 : ∀ (K' : Key) v' cs', st.isHand K' → K'.s = (st.hand 0).s → K'.apart K → VR R v' K' cs' → VR (R1.mv (st.hand 1) K) v' K' cs' := by
    intro K' v' cs' a b c hv'
    exact VR.keptHands h1 hA1 hK1 (hand_child_apart b (by omega)) c (hkept K' v' cs' (hand0 K' a b) hv')
  have nilcase : v = .nils ∨ v ≠ .nils := by cases v <;> simp
  rw [M.wp_bind] at hk
  rcases nilcase with rfl | hnn
  · simp only [typed] at hk
    split at hk
    · rename_i e he
      have hval : [t0.getD t undef] = [Value.slice none 0 0] := hv
      obtain ⟨R3, h3, hz, hkz⟩ := h1.zeroAt hK1 E.nest (.sl e)
      refine ⟨_, st1, R3, hk, h3, hl1, hh1, fun _ => ?_, fun K' v' cs' a b c hv' => hkz K' v' cs' c (hkept K' v' cs' (hand0 K' a b) hv')⟩
      simp only [List.cons.injEq, and_true] at hval
      rw [hval]
      exact hz
    · exact hk.elim
  · have hk : (v.resolve).wp C st1 k := by
      cases v <;> first | exact hk | exact absurd rfl hnn
    rw [SV_VV b2, VV_iff b1] at hv
    have fin : ∀ cs, VR R1 v (st.hand 1) cs → ∃ u st1' R2, k u st1' ∧ Rel w0 st1' (a.tmps :: ts) R2 w ∧ st1'.length = st.length ∧ (∀ i, st1'.hand i = st.hand i) ∧ u.isAgg = v.isAgg ∧ u.isBad = false ∧ VR R2 u K cs ∧
        (∀ (K' : Key) v' cs', st.isHand K' → K'.s = (st.hand 0).s → K'.apart K → VR R v' K' cs' → VR R2 v' K' cs') := by
      intro cs hcs
      have hv2 : VR (R1.mv (st.hand 1) K) v K cs := VR.mvHands h1 hA1 hK1 hcs
      obtain ⟨u, st2, R2, hk, h3, hl2, hh2, _, hg, hb', hv3, hk3⟩ := resolve_ok h2 hK1 hv2 hk
      exact ⟨u, st2, R2, hk, h3, hl2.trans hl1, fun i => (hh2 i).trans (hh1 i), hg, hb' hb, hv3, fun K' v' cs' a b c hv' => hk3 K' v' cs' ((isHand_of hl1 hh1).2 a) c (kept2 K' v' cs' a b c hv')⟩
    split at hv
    · rename_i hg
      obtain ⟨arr, e, hv⟩ := hv
      obtain ⟨u, st2, R2, a1, a2, a3, a4, a5, a6, a7, a8⟩ := fin _ hv
      refine ⟨u, st2, R2, a1, a2, a3, a4, fun hbu => ?_, a8⟩
      rw [VV_iff (AV.notBad a6).1, a5, if_pos hg]
      exact ⟨arr, e, a7⟩
    · rename_i hg
      obtain ⟨u, st2, R2, a1, a2, a3, a4, a5, a6, a7, a8⟩ := fin _ hv
      refine ⟨u, st2, R2, a1, a2, a3, a4, fun hbu => ?_, a8⟩
      rw [VV_iff (AV.notBad a6).1, a5, if_neg hg]
      exact a7

end Go.Proofs.Ytlndfmmigndgeaa.Ev

/- Functions that end. -/
namespace Go.Proofs.Ytlndfmmigndgeaa.Ev
open Go
set_option linter.unusedSimpArgs false
set_option linter.unusedVariables false

theorem pack_agg : ∀ {v : AV} {w : Pk}, v.pack = some w → w.s.isAgg = v.isAgg := by
  intro v w h
  cases v <;> simp only [AV.pack] at h <;> try (simp at h; done)
  · simp only [Option.some.injEq] at h; subst h; rfl
  · simp only [Option.some.injEq] at h; subst h; rfl
  · split at h
    · simp only [Option.some.injEq] at h; subst h; rfl
    · simp at h
  · simp only [Option.some.injEq] at h; subst h; rfl

theorem pack_VV {R : Cx} {v : AV} {w : Pk} (h : v.pack = some w) {K : Key} {u : Value} (hv : VV R v K u) : VV R (unpack w.s w.o w.x) K u := by
  rw [VV_iff (AV.notBad (AV.pack_good h)).1] at hv
  rw [unpack_VV, pack_agg h]
  split at hv
  · rename_i hg; rw [if_pos hg]; obtain ⟨arr, e, hv⟩ := hv; exact ⟨arr, e, (pack_VR _ _ h _ _).1 hv⟩
  · rename_i hg; rw [if_neg hg]; exact (pack_VR _ _ h _ _).1 hv

theorem unpackC_pr {R : Cx} {a b : Sh} {o1 o2 : Ow} {x : (Sh.pair a b).den} {K : Key} {us : List Value} (h : TupR R (.pair (unpack a o1 x.1) (unpackC b o2 x.2)) K us) : TupR R (unpackC (.pair a b) (Ow.pr' o1 o2) x) K us := by
  cases o1 <;> cases o2 <;> exact h

theorem packC {R : Cx} : ∀ {v : AV} {w : Pk}, v.pack = some w → ∀ {K : Key} {us : List Value}, TupR R v K us → TupR R (unpackC w.s w.o w.x) K us := by
  intro v
  induction v with
  | pair x y ihx ihy =>
    intro w h K us ht
    simp only [AV.pack] at h
    split at h
    · rename_i wx wy hx hy
      simp only [Option.some.injEq] at h
      subst h
      obtain ⟨u, r, rfl, h1, h2⟩ := ht
      exact unpackC_pr ⟨u, r, rfl, pack_VV hx h1, ihy hy h2⟩
    · simp at h
  | unit => intro w h K us ht; simp only [AV.pack, Option.some.injEq] at h; subst h; exact ht
  | _ => intro w h K us ht; exact ht.elim

theorem pack_pair {x y : AV} {w : Pk} (h : (AV.pair x y).pack = some w) : (∃ wx, x.pack = some wx) ∧ ∃ wy, y.pack = some wy := by
  simp only [AV.pack] at h
  split at h
  · rename_i wx wy hx hy; exact ⟨⟨wx, hx⟩, wy, hy⟩
  · simp at h

/-- What a result variable holds. -/
def ResR (P : Program) (w : World) (t0 : Array Value) : ResultVar → Value → Prop
  | .tmp t, v => v = t0.getD t undef
  | .cell a t, v => (do loadVar t (← asAddr (t0.getD a undef)) : Sem Value).run P w = .ok v w

def ResAll (P : Program) (w : World) (t0 : Array Value) : List ResultVar → List Value → Prop
  | [], [] => True
  | r :: rs, v :: vs => ResR P w t0 r v ∧ ResAll P w t0 rs vs
  | _, _ => False

theorem retRes_ok {P : Program} {E : Env} (hE : EnvOk P E) {C : Orc} {w0 : Base} {w : World} {st : St} {t0 : Array Value} {ts : List (Array Value)} {R : Cx} (h : Rel w0 st (t0 :: ts) R w) {s : Sh} {r : ResultVar} {K : Key} (hK : st.isHand K) (hKs : K.s = (st.hand 0).s) {k : AV → St → Prop} (hw : (retOne E s r).wp C st k) :
    ∃ v u st1 R1, ResR P w t0 r v ∧ k u st1 ∧ Rel w0 st1 (t0 :: ts) R1 w ∧ st1.length = st.length ∧ (∀ i, st1.hand i = st.hand i) ∧ (u.isBad = false → VV R1 u K v) ∧
      (∀ (K' : Key) v' cs', st.isHand K' → K'.s = (st.hand 0).s → K'.apart K → VR R v' K' cs' → VR R1 v' K' cs') := by
  cases r with
  | tmp t =>
    obtain ⟨u, st1, R1, a1, a2, a3, a4, a5, a6⟩ := retOne_ok h hK hKs hw
    exact ⟨_, u, st1, R1, rfl, a1, a2, a3, a4, a5, a6⟩
  | cell a t =>
    simp only [retOne, M.wp_rd] at hw
    obtain ⟨sl, hs, hw⟩ := hw
    rw [M.wp_bind] at hw
    have hsv := h.slot 0 a sl _ hs rfl
    cases hv : sl.v with
    | ptr q =>
      rw [hv] at hw hsv
      simp only [loadAV] at hw
      by_cases hm : q.mem = true
      · rw [if_pos hm] at hw
        obtain ⟨y, hy, _, hb, c, hc, ha⟩ := lookPl_ok h hw
        simp only [AV.isPtr, and_true] at hy
        by_cases hz : E.sz t = some (y.size, y.isAgg)
        · rw [if_pos hz] at hy
          have hlen := St.get_lt hs
          obtain ⟨b, arr, el, rest, e1, e2, e3, _⟩ := ptr_at h (K := st.kv 0 a) (by simp [St.kv]) hsv (ha hm)
          have hyv := hc K (by rw [hK.1])
          obtain ⟨i, d, h1, h2, h3, h4⟩ := hE.sz hz
          obtain ⟨l1, l2⟩ := run_load_cells (P := P) h1 h3 h4 e2 e3 (by rw [h2, VR.length hyv])
          obtain ⟨u, st1, R1, a1, a2, a3, a4, a5, a6, a7, a8, a9⟩ := resolve_ok h hK hyv hy
          have hub := a7 hb
          have hrun : ∀ v, (Instr.loadAt t (.pointer (some ⟨b, offOf q.p, none⟩))).run P w = .ok v w → ResR P w t0 (.cell a t) v := by
            intro v hv
            simp only [ResR, e1, asAddr]
            simpa [Instr.loadAt, Instr.sureAddr] using hv
          cases hg : y.isAgg with
          | true =>
            refine ⟨_, u, st1, R1, hrun _ (l1 hg), a1, a2, a3, a4, fun _ => ?_, fun K' v' cs' x1 x2 x3 x4 => a9 K' v' cs' x1 x3 x4⟩
            rw [VV_iff (AV.notBad hub).1, a6, hg, if_pos rfl]
            exact ⟨_, rfl, by simpa using a8⟩
          | false =>
            obtain ⟨v1, hv1⟩ : ∃ v1, c = [v1] := by
              have e1 := VR.length hyv
              have e2 : y.size = 1 := AV.size_one hg
              rw [e2] at e1
              exact List.length_eq_one_iff.1 e1
            refine ⟨v1, u, st1, R1, hrun _ (l2 hg v1 hv1), a1, a2, a3, a4, fun _ => ?_, fun K' v' cs' x1 x2 x3 x4 => a9 K' v' cs' x1 x3 x4⟩
            rw [VV_iff (AV.notBad hub).1, a6, hg]
            subst hv1
            simpa using a8
        · rw [if_neg hz] at hy; exact hy.elim
      · rw [if_neg hm] at hw; exact hw.elim
    | dp s' x' => rw [hv] at hw; simp only [loadAV] at hw; have hw : ((if E.sz t = some (_, _) ∧ (AV.dp s' x').isPtr = true then _ else M.fail) : M AV).wp C st k := hw; rw [if_neg (by simp [AV.isPtr])] at hw; exact hw.elim
    | _ => rw [hv] at hw; exact hw.elim

/-- A chain of results, of each of which something is known. -/
def AV.chainOk : AV → Bool
  | .pair x y => !x.isBad && y.chainOk
  | _ => true

theorem pack_chainOk : ∀ {v : AV} {w : Pk}, v.pack = some w → v.chainOk = true := by
  intro v
  induction v with
  | pair x y ihx ihy =>
    intro w h
    obtain ⟨⟨wx, hx⟩, wy, hy⟩ := pack_pair h
    simp only [AV.chainOk, AV.pack_good hx, ihy hy, Bool.not_false, Bool.and_self]
  | _ => intro w _; rfl

/-- Several results, in a chain. -/
theorem retAll_ok {P : Program} {E : Env} (hE : EnvOk P E) {C : Orc} {w0 : Base} {w : World} {t0 : Array Value} {ts : List (Array Value)} : ∀ {ss : List Sh} {rs : List ResultVar} {st : St} {R : Cx} (h : Rel w0 st (t0 :: ts) R w) {K : Key} (hK : st.isHand K) (hKs : K.s = (st.hand 0).s) {k : AV → St → Prop}, (retAll E ss rs).wp C st k →
    ∃ vs u st1 R1, ResAll P w t0 rs vs ∧ k u st1 ∧ Rel w0 st1 (t0 :: ts) R1 w ∧ st1.length = st.length ∧ (∀ i, st1.hand i = st.hand i) ∧ (u.chainOk = true → TupR R1 u K vs) ∧
      (∀ (K' : Key) v' cs', st.isHand K' → K'.s = (st.hand 0).s → K'.apart K → VR R v' K' cs' → VR R1 v' K' cs') := by
  intro ss
  induction ss with
  | nil =>
    intro rs st R h K hK hKs k hw
    cases rs with
    | nil => exact ⟨[], _, st, R, trivial, hw, h, rfl, fun _ => rfl, fun _ => rfl, fun _ _ _ _ _ _ => id⟩
    | cons => exact hw.elim
  | cons s ss ih =>
    intro rs st R h K hK hKs k hw
    cases rs with
    | nil => exact hw.elim
    | cons r rs =>
      simp only [retAll, M.wp_bind] at hw
      have hKl : st.isHand (K.child .l) := isHand_under (Key.child_under _ _) hK
      have hKr : st.isHand (K.child (.r 0)) := isHand_under (Key.child_under _ _) hK
      have hlr : (K.child .l).apart (K.child (.r 0)) := Key.child_apart (by simp)
      replace hw := retRes_ok (P := P) hE h hKl hKs hw
      obtain ⟨v1, u, st1, R1, hv0, hw, h1, hl1, hh1, hv1, k1⟩ := hw
      have hs0 : (st1.hand 0).s = (st.hand 0).s := by rw [hh1 0]
      replace hw := ih h1 ((isHand_of hl1 hh1).2 hKr) (by rw [hs0]; exact hKs) hw
      obtain ⟨vs, y, st2, R2, hvs, hw, h2, hl2, hh2, hv2, k2⟩ := hw
      refine ⟨v1 :: vs, _, st2, R2, ⟨hv0, hvs⟩, hw, h2, hl2.trans hl1, fun i => (hh2 i).trans (hh1 i), ?_, ?_⟩
      · intro hp
        simp only [AV.chainOk, Bool.and_eq_true, Bool.not_eq_true'] at hp
        have hg := hp.1
        have hvv := hv1 hg
        refine ⟨_, _, rfl, ?_, hv2 hp.2⟩
        rw [VV_iff (AV.notBad hg).1] at hvv ⊢
        have kk : ∀ cs, VR R1 u (K.child .l) cs → VR R2 u (K.child .l) cs := fun cs hc => k2 _ _ _ ((isHand_of hl1 hh1).2 hKl) (by rw [hs0]; exact hKs) hlr hc
        split at hvv
        · rename_i hag; rw [if_pos hag]; obtain ⟨arr, e, hvv⟩ := hvv; exact ⟨arr, e, kk _ hvv⟩
        · rename_i hag; rw [if_neg hag]; exact kk _ hvv
      · intro K' v' cs' a b c hv'
        have c1 : K'.apart (K.child .l) := fun T hT hT' => c T hT (Key.under_trans hT' (Key.child_under _ _))
        have c2 : K'.apart (K.child (.r 0)) := fun T hT hT' => c T hT (Key.under_trans hT' (Key.child_under _ _))
        exact k2 K' v' cs' ((isHand_of hl1 hh1).2 a) (by rw [hs0]; exact b) c2 (k1 K' v' cs' a b c1 hv')

theorem run_results {P : Program} {fn : Func} {t0 : Array Value} {w : World} {vs : List Value} (hr : ResAll P w t0 fn.results.toList vs) : (results fn t0).run P w = .ok (if h : vs.length = 1 then vs[0]'(by omega) else .tuple vs.toArray) w := by
  have key : ∀ (f : ResultVar → Sem Value), (∀ r v, ResR P w t0 r v → (f r).run P w = .ok v w) → ∀ (rs : List ResultVar) (vs : List Value), ResAll P w t0 rs vs → (rs.mapM f).run P w = .ok vs w := by
    intro f hf rs
    induction rs with
    | nil => intro vs h; cases vs with | nil => simp | cons => exact h.elim
    | cons r rs ih =>
      intro vs h
      cases vs with
      | nil => exact h.elim
      | cons v vs =>
        have h1 := hf _ _ h.1
        have h2 := ih vs h.2
        simp [List.mapM_cons, h1, h2]
  unfold results
  rw [Array.mapM_eq_mapM_toList]
  rw [Sem.run_bind, Sem.run_map, key _ (fun r v hv => by cases r with | tmp t => simp only [ResR] at hv; subst hv; rfl | cell a t => exact hv) fn.results.toList vs hr]
  simp only [Result.andThen_ok, Sem.run_pure, List.size_toArray, List.getElem_toArray]

theorem ResAll.length {P : Program} {w : World} {t0 : Array Value} : ∀ {rs : List ResultVar} {vs : List Value}, ResAll P w t0 rs vs → vs.length = rs.length := by
  intro rs
  induction rs with
  | nil => intro vs h; cases vs with | nil => rfl | cons => exact h.elim
  | cons r rs ih => intro vs h; cases vs with | nil => exact h.elim | cons v vs => simp [ih h.2]

end Go.Proofs.Ytlndfmmigndgeaa.Ev

/- Functions that are handed data: what is evaluated is what they do. -/
namespace Go.Proofs.Ytlndfmmigndgeaa.Ev
open Go
set_option linter.unusedSimpArgs false
set_option linter.unusedVariables false

/-- The running frame is left: what lay in its hand lies in the caller's. -/
theorem Rel.popped {w0 : Base} {w : World} {f : Frm} {o : St} {t : Array Value} {ts : List (Array Value)} {R : Cx} (h : Rel w0 (f :: o) (t :: ts) R w) :
    ∃ R', Rel w0 o ts R' w ∧ R'.Z = R.Z ∧ R'.h = R.h ∧ (∀ q, R'.ρ ((o.hand 0).plus q) = R.ρ ((St.hand (f :: o) 0).plus q)) ∧ ∀ T : Key, T.lv < o.length → R.fl T.lv T.s T.bx = true → R'.fl T.lv T.s T.bx = true ∧ R'.ρ T = R.ρ T := by
  let A := St.hand (f :: o) 0
  let B := o.hand 0
  let R' : Cx := { R with ρ := fun T => if T.under B then R.ρ (A.plus (T.below B)) else if o.length ≤ T.lv then none else R.ρ T, fl := o.fl }
  have hAl : A.lv = o.length := by simp [A, St.hand]
  have sb : ∀ {T b n}, R'.ρ T = some (.blk b n) → (T.under B ∧ R.ρ (A.plus (T.below B)) = some (.blk b n)) ∨ (¬ T.under B ∧ T.lv < o.length ∧ R.ρ T = some (.blk b n)) := by
    intro T b n e
    simp only [R'] at e
    split at e
    · rename_i hu; exact .inl ⟨hu, e⟩
    · rename_i hu
      split at e
      · simp at e
      · exact .inr ⟨hu, by omega, e⟩
  have some' : ∀ {T b n}, R'.ρ T = some (.blk b n) → ∃ S, R.ρ S = some (.blk b n) := by
    intro T b n e
    rcases sb e with ⟨_, e⟩ | ⟨_, _, e⟩
    · exact ⟨_, e⟩
    · exact ⟨_, e⟩
  have hget : ∀ i s, St.get (f :: o) (i + 1) s = o.get i s := by intro i s; simp [St.get]
  have hfl : ∀ lv n bx, lv < o.length → St.fl (f :: o) lv n bx = o.fl lv n bx := by
    intro lv n bx hl
    have e : o.length + 1 - 1 - lv = (o.length - 1 - lv) + 1 := by omega
    simp only [St.fl, List.length_cons, e, hget]
    have h1 : decide (lv < o.length + 1) = true := by simp; omega
    have h2 : decide (lv < o.length) = true := by simp; omega
    rw [h1, h2]
  have ok : ∀ (K : Key) (b : AV), K.lv < o.length → (∀ T : Key, T.under K → ¬ T.under B) → R.Ok R' K b := by
    intro K b hl hB
    refine ⟨⟨fun _ => id, fun _ _ _ => id, fun T hT => ?_, fun _ _ _ _ _ _ => id⟩, fun T hT e => ?_⟩
    · have : T.lv < o.length := by rw [hT.1]; exact hl
      simp only [R', if_neg (hB T hT), if_neg (by omega : ¬ o.length ≤ T.lv)]
    · have hTl : T.lv < o.length := Nat.lt_of_le_of_lt (hits_lv_le hT) hl
      have e' : o.fl T.lv T.s T.bx = true := by rw [← hfl _ _ _ hTl, ← h.fl]; exact e
      refine ⟨e', .inr ⟨?_, fun b n arr el _ e => ⟨arr, e, rfl⟩⟩⟩
      have hnB : ¬ T.under B := by
        intro hu
        have h1 := hu.1
        have h2 := hu.2.1
        have h3 := hu.2.2.1
        rw [h1, h2, h3] at e'
        have := St.fl_hand o 0 false
        simp only [B, St.hand] at e'
        rw [this] at e'
        simp at e'
      simp only [R', if_neg hnB, if_neg (by omega : ¬ o.length ≤ T.lv)]
  refine ⟨R', ⟨h.hh, fun _ _ _ => rfl, by have := h.len; simpa using this, ?_, ?_, ?_, ?_, ?_, ?_, ?_, h.zlt, h.bel, h.zlo⟩, rfl, rfl, fun q => ?_, fun T hTl e => ?_⟩
  · intro i g t' hg ht
    exact h.sz (i + 1) g t' (by simpa using hg) (by simpa using ht)
  · intro i s sl t' hg ht
    have := h.slot (i + 1) s sl t' (by rw [hget]; exact hg) (by simpa using ht)
    have hi := St.get_lt hg
    have e : St.kv (f :: o) (i + 1) s = o.kv i s := by simp only [St.kv, List.length_cons, Key.mk.injEq, and_true]; omega
    rw [e] at this
    obtain ⟨q1, q2⟩ := ok (o.kv i s) sl.v (by simp only [St.kv]; omega) (kv_hand_apart' o 0 hg)
    exact SV.frame (AV.le_refl _) q1 q2 this
  · intro i s sl hg
    have := h.box (i + 1) s sl (by rw [hget]; exact hg)
    have hi := St.get_lt hg
    have e : St.kb (f :: o) (i + 1) s = o.kb i s := by simp only [St.kb, List.length_cons, Key.mk.injEq, and_true]; omega
    rw [e] at this
    obtain ⟨q1, q2⟩ := ok (o.kb i s) sl.b (by simp only [St.kb]; omega) (kb_hand_apart _ _ _ _)
    exact BoxR.frame (AV.le_refl _) q1 q2 this
  · intro T T' b n m e1 e2
    rcases sb e1 with ⟨u1, r1⟩ | ⟨u1, l1, r1⟩ <;> rcases sb e2 with ⟨u2, r2⟩ | ⟨u2, l2, r2⟩
    · have := Key.plus_inj (h.inj _ _ _ _ _ r1 r2)
      rw [← Key.plus_below u1, ← Key.plus_below u2, this]
    · have := h.inj _ _ _ _ _ r1 r2
      rw [← this] at l2
      have : (A.plus (T.below B)).lv = o.length := hAl
      omega
    · have := h.inj _ _ _ _ _ r1 r2
      rw [this] at l1
      have : (A.plus (T'.below B)).lv = o.length := hAl
      omega
    · exact h.inj _ _ _ _ _ r1 r2
  · intro b hb T n e
    obtain ⟨S, e⟩ := some' e
    exact h.zd b hb S n e
  · intro T b n e
    obtain ⟨S, e⟩ := some' e
    exact h.lo _ _ _ e
  · intro T b n e
    obtain ⟨S, e⟩ := some' e
    exact h.lt _ _ _ e
  · show (if (B.plus q).under B then R.ρ (A.plus ((B.plus q).below B)) else if o.length ≤ (B.plus q).lv then none else R.ρ (B.plus q)) = _
    rw [if_pos (Key.under_plus B q), Key.below_plus]
  · have e' : o.fl T.lv T.s T.bx = true := by rw [← hfl _ _ _ hTl, ← h.fl]; exact e
    refine ⟨e', ?_⟩
    have hnB : ¬ T.under B := by
      intro hu
      have h1 := hu.1
      have h2 := hu.2.1
      have h3 := hu.2.2.1
      rw [h1, h2, h3] at e'
      have := St.fl_hand o 0 false
      simp only [B, St.hand] at e'
      rw [this] at e'
      simp at e'
    simp only [R', if_neg hnB, if_neg (by omega : ¬ o.length ≤ T.lv)]

/-- What comes back, in the caller's hand. -/
theorem ret_ok {P : Program} {C : Orc} {E : Env} (hE : EnvOk P E) {fn : Func} {ss : List Sh} {rs : List ResultVar} (hrs : fn.results.toList = rs) {w0 : Base} {w : World} {st : St} {t0 : Array Value} {ts : List (Array Value)} {R : Cx} (h : Rel w0 st (t0 :: ts) R w) {k : Pk → St → Prop}
    (hw : (retM E ss rs).wp C st fun v st' => ∃ w r, v.pack = some w ∧ w.as (rs.length == 1) r ∧ k r st'.tail) :
    ∃ v r st' R', (results fn t0).run P w = .ok v w ∧ k r st'.tail ∧ st'.length = st.length ∧ Rel w0 st' (t0 :: ts) R' w ∧ SV R' (asTup (rs.length != 1) (unpackT (rs.length != 1) r)) (st'.hand 0) v := by
  have hK := isHand_hand st 0
  by_cases h1 : ∃ s r, ss = [s] ∧ rs = [r]
  · obtain ⟨s, r0, rfl, rfl⟩ := h1
    replace hw := retRes_ok (P := P) hE h hK rfl hw
    obtain ⟨v, u, st1, R1, hres, ⟨wp, r, hp, has, hk⟩, h1, hl, hh, hv, _⟩ := hw
    have hvv := pack_VV hp (hv (AV.pack_good hp))
    have hr : (results fn t0).run P w = .ok v w := by
      rw [run_results (vs := [v]) (by rw [hrs]; exact ⟨hres, trivial⟩)]
      simp
    rcases has with rfl | ⟨_, ho, hs, hx⟩
    · refine ⟨_, wp, st1, R1, hr, hk, hl, h1, ?_⟩
      show SV R1 (unpack wp.s wp.o wp.x) (st1.hand 0) _
      rw [SV_VV (AV.notBad (unpack_good _ _ _)).2, hh 0]
      exact hvv
    · refine ⟨_, r, st1, R1.freezeHands st1, hr, hk, hl, h1.freezeHands, ?_⟩
      show SV (R1.freezeHands st1) (unpack r.s r.o r.x) (st1.hand 0) _
      rw [SV_VV (AV.notBad (unpack_good _ _ _)).2, unpack_VV]
      rw [unpack_VV] at hvv
      obtain ⟨rs', ro, rx⟩ := r
      obtain ⟨ws, wo, wx⟩ := wp
      simp only at ho hs hx hvv ⊢
      subst ho hs
      simp only [castDen] at hx
      subst hx
      have fz : ∀ cs, OR R1 ws wo (st.hand 0) wx cs → OR (R1.freezeHands st1) ws .fz (st1.hand 0) wx cs := by
        intro cs hc
        rw [OR_fz]
        exact OR.freeze (R := R1) (Z' := (R1.freezeHands st1).Z) (fun b hb => .inl hb) (fun T b n hT hr => .inr ⟨T, n, isHand_under hT ((isHand_of hl hh).2 hK), hr⟩) hc
      split at hvv
      · rename_i hg; rw [if_pos hg]; obtain ⟨arr, e, hvv⟩ := hvv; exact ⟨arr, e, fz _ hvv⟩
      · rename_i hg; rw [if_neg hg]; exact fz _ hvv
  · have hne : rs.length ≠ 1 := by
      intro hl1
      obtain ⟨r, rfl⟩ := List.length_eq_one_iff.1 hl1
      cases ss with
      | nil => exact hw
      | cons s ss =>
        cases ss with
        | nil => exact h1 ⟨s, r, rfl, rfl⟩
        | cons s' ss =>
          simp only [retM, retAll, M.wp_bind] at hw
          obtain ⟨v, u, st1, R1, _, hw, _⟩ := retRes_ok (P := P) hE h (K := st.hand 0) hK rfl hw
          exact hw
    have hw : (retAll E ss rs).wp C st fun v st' => ∃ w r, v.pack = some w ∧ w.as (rs.length == 1) r ∧ k r st'.tail := by
      unfold retM at hw
      split at hw
      · simp at hne
      · exact hw
    obtain ⟨vs, u, st1, R1, hres, ⟨wp, r, hp, has, hk⟩, h1, hl, hh, hv, _⟩ := retAll_ok (P := P) hE h hK rfl hw
    have hrw : wp = r := by
      rcases has with e | ⟨e, _⟩
      · exact e
      · simp at e; exact absurd e hne
    subst hrw
    have hb : (rs.length != 1) = true := by simpa using hne
    have hvl := hres.length
    refine ⟨_, wp, st1, R1, run_results (by rw [hrs]; exact hres), hk, hl, h1, ?_⟩
    rw [hb, dif_neg (by omega)]
    refine ⟨_, rfl, ?_⟩
    simp only [unpackT, if_true]
    rw [hh 0]
    simpa using packC hp (hv (pack_chainOk hp))

/-- What comes back of a function that was handed views. -/
theorem ret_okI {P : Program} {C : Orc} {E : Env} (hE : EnvOk P E) {fn : Func} {ss : List Sh} {rs : List ResultVar} (hrs : fn.results.toList = rs) {w0 : Base} {w : World} {st : St} {t0 : Array Value} {ts : List (Array Value)} {R : Cx} (h : Rel w0 st (t0 :: ts) R w) {k : AV → St → Prop}
    (hw : (retM E ss rs).wp C st fun v st' => ∃ r, v.lower = some r ∧ k r st'.tail) :
    ∃ v u r st' R', (results fn t0).run P w = .ok v w ∧ u.lower = some r ∧ k r st'.tail ∧ st'.length = st.length ∧ Rel w0 st' (t0 :: ts) R' w ∧ SV R' (asTup (rs.length != 1) u) (st'.hand 0) v := by
  have hK := isHand_hand st 0
  have good : ∀ {u r : AV}, u.lower = some r → u.isBad = false := by intro u r e; cases u <;> simp [AV.lower] at e <;> rfl
  have chain : ∀ {u r : AV}, u.lower = some r → u.chainOk = true := by
    intro u
    induction u with
    | pair x y ihx ihy =>
      intro r e
      simp only [AV.lower] at e
      split at e
      · rename_i x' y' hx hy
        simp only [AV.chainOk, good hx, ihy hy, Bool.not_false, Bool.and_self]
      · simp at e
    | _ => intro r _; rfl
  by_cases h1 : ∃ s r, ss = [s] ∧ rs = [r]
  · obtain ⟨s, r0, rfl, rfl⟩ := h1
    replace hw := retRes_ok (P := P) hE h hK rfl hw
    obtain ⟨v, u, st1, R1, hres, ⟨r, hp, hk⟩, h1, hl, hh, hv, _⟩ := hw
    have hr : (results fn t0).run P w = .ok v w := by
      rw [run_results (vs := [v]) (by rw [hrs]; exact ⟨hres, trivial⟩)]
      simp
    refine ⟨_, u, r, st1, R1, hr, hp, hk, hl, h1, ?_⟩
    show SV R1 u (st1.hand 0) _
    rw [SV_VV (AV.notBad (good hp)).2, hh 0]
    exact hv (good hp)
  · have hne : rs.length ≠ 1 := by
      intro hl1
      obtain ⟨r, rfl⟩ := List.length_eq_one_iff.1 hl1
      cases ss with
      | nil => exact hw
      | cons s ss =>
        cases ss with
        | nil => exact h1 ⟨s, r, rfl, rfl⟩
        | cons s' ss =>
          simp only [retM, retAll, M.wp_bind] at hw
          obtain ⟨v, u, st1, R1, _, hw, _⟩ := retRes_ok (P := P) hE h (K := st.hand 0) hK rfl hw
          exact hw
    have hw : (retAll E ss rs).wp C st fun v st' => ∃ r, v.lower = some r ∧ k r st'.tail := by
      unfold retM at hw
      split at hw
      · simp at hne
      · exact hw
    obtain ⟨vs, u, st1, R1, hres, ⟨r, hp, hk⟩, h1, hl, hh, hv, _⟩ := retAll_ok (P := P) hE h hK rfl hw
    have hb : (rs.length != 1) = true := by simpa using hne
    have hvl := hres.length
    refine ⟨_, u, r, st1, R1, run_results (by rw [hrs]; exact hres), hp, hk, hl, h1, ?_⟩
    rw [hb, dif_neg (by omega)]
    refine ⟨_, rfl, ?_⟩
    rw [hh 0]
    simpa using hv (chain hp)

theorem lower_size : ∀ {u r : AV}, u.lower = some r → r.size = u.size ∧ r.isAgg = u.isAgg ∧ r.isBad = false ∧ u.isBad = false := by
  intro u
  induction u with
  | pair x y ihx ihy =>
    intro r e
    simp only [AV.lower] at e
    split at e
    · rename_i x' y' hx hy
      simp only [Option.some.injEq] at e
      subst e
      exact ⟨by simp only [AV.size, (ihx hx).1, (ihy hy).1], rfl, rfl, rfl⟩
    · simp at e
  | fn f a ih =>
    intro r e
    simp only [AV.lower] at e
    split at e
    · simp only [Option.some.injEq] at e; subst e; exact ⟨rfl, rfl, rfl, rfl⟩
    · simp at e
  | vw q e0 => intro r e; simp only [AV.lower] at e; split at e <;> simp at e; subst e; exact ⟨rfl, rfl, rfl, rfl⟩
  | sub q e0 lo n => intro r e; simp only [AV.lower] at e; split at e <;> simp at e; subst e; exact ⟨rfl, rfl, rfl, rfl⟩
  | ptr q => intro r e; simp only [AV.lower] at e; split at e <;> simp at e; subst e; exact ⟨rfl, rfl, rfl, rfl⟩
  | hol e0 o l i a ih => intro r e; simp [AV.lower] at e
  | tup a ih => intro r e; simp [AV.lower] at e
  | undef => intro r e; simp [AV.lower] at e
  | _ => intro r e; simp only [AV.lower, Option.some.injEq] at e; subst e; exact ⟨rfl, rfl, rfl, rfl⟩

/-- What a function hands back, in the caller's hand. -/
theorem lower_VR {R R' : Cx} {A B : Key} {N : Nat} (hA : A.lv = N) (hB : B.lv = N - 1) (hN : 0 < N) (hZ : R'.Z = R.Z) (hh : R'.h = R.h) (hρ : ∀ q, R'.ρ (B.plus q) = R.ρ (A.plus q))
    (hT : ∀ T : Key, T.lv < N → R.fl T.lv T.s T.bx = true → R'.fl T.lv T.s T.bx = true ∧ R'.ρ T = R.ρ T) : ∀ {u r : AV}, u.lower = some r → ∀ {q : List Stp} {cs : List Value}, VR R u (A.plus q) cs → VR R' r (B.plus q) cs := by
  have pl : ∀ {q : Pl} {p : List Stp}, q.r.k ≠ 0 → R.sees (A.plus p) q → R'.sees (B.plus p) q.low ∧ (B.plus p).at q.low = (A.plus p).at q ∧ R'.ρ ((A.plus p).at q) = R.ρ ((A.plus p).at q) ∧ R'.ρ ((A.plus p).at q).node = R.ρ ((A.plus p).at q).node := by
    intro q p hk ⟨h1, h2⟩
    have hAl : (A.plus p).lv = N := hA
    have hBl : (B.plus p).lv = N - 1 := hB
    rw [hAl] at h1 h2
    have e1 : N - 1 - (q.r.k - 1) = N - q.r.k := by omega
    have hlt : N - q.r.k < N := by omega
    have t1 := hT ((A.plus p).at q) (by show (A.plus p).lv - q.r.k < N; rw [hAl]; exact hlt) (by show R.fl ((A.plus p).lv - q.r.k) _ _ = true; rw [hAl]; exact h2)
    have t2 := hT ((A.plus p).at q).node (by show (A.plus p).lv - q.r.k < N; rw [hAl]; exact hlt) (by show R.fl ((A.plus p).lv - q.r.k) _ _ = true; rw [hAl]; exact h2)
    refine ⟨⟨?_, ?_⟩, ?_, t1.2, t2.2⟩
    · show q.r.k - 1 ≤ (B.plus p).lv; rw [hBl]; omega
    · show R'.fl ((B.plus p).lv - (q.r.k - 1)) q.r.s q.r.bx = true
      rw [hBl, e1]
      have := t1.1
      simp only [Key.at, hAl] at this
      exact this
    · simp only [Key.at, Pl.low, hAl, hBl, e1]
  intro u
  induction u with
  | d s x => intro r e q cs h; simp only [AV.lower, Option.some.injEq] at e; subst e; simp only [VR, hZ, hh] at h ⊢; exact h
  | own e0 o l =>
    intro r e q cs h
    simp only [AV.lower, Option.some.injEq] at e
    subst e
    exact OR.rekey (R := R) (R' := R') (A := A) (B := B) (s := .sl e0) (o := .ow o) (fun b hb => by rw [hZ]; exact hb) hh hρ h
  | hol e0 o l i a ih => intro r e; simp [AV.lower] at e
  | vw q0 e0 =>
    intro r e q cs h
    simp only [AV.lower] at e
    split at e
    · simp at e
    · rename_i hk
      simp only [Option.some.injEq] at e
      subst e
      obtain ⟨v, rfl, hs, hv⟩ := h
      obtain ⟨s1, s2, s3, _⟩ := pl hk hs
      refine ⟨v, rfl, s1, ?_⟩
      rw [s2, s3]
      cases hq : R.ρ ((A.plus q).at q0) with
      | none => rw [hq] at hv; exact hv
      | some nd => rw [hq] at hv; cases nd with
        | nil => exact hv
        | blk b len => simp only [VwR, hh] at hv ⊢; exact hv
  | sub q0 e0 lo n =>
    intro r e q cs h
    simp only [AV.lower] at e
    split at e
    · simp at e
    · rename_i hk
      simp only [Option.some.injEq] at e
      subst e
      obtain ⟨v, rfl, hs, hv⟩ := h
      obtain ⟨s1, s2, s3, _⟩ := pl hk hs
      refine ⟨v, rfl, s1, ?_⟩
      rw [s2, s3]
      cases hq : R.ρ ((A.plus q).at q0) with
      | none => rw [hq] at hv; exact hv
      | some nd => rw [hq] at hv; cases nd with
        | nil => exact hv
        | blk b len => exact hv
  | ptr q0 =>
    intro r e q cs h
    simp only [AV.lower] at e
    split at e
    · simp at e
    · rename_i hk
      simp only [Option.some.injEq] at e
      subst e
      obtain ⟨v, rfl, hs, hv⟩ := h
      obtain ⟨s1, s2, _, s4⟩ := pl hk hs
      refine ⟨v, rfl, s1, ?_⟩
      rw [s2, s4]
      exact hv
  | dp s x => intro r e q cs h; simp only [AV.lower, Option.some.injEq] at e; subst e; simp only [VR, hZ, hh] at h ⊢; exact h
  | pair x y ihx ihy =>
    intro r e q cs h
    simp only [AV.lower] at e
    split at e
    · rename_i x' y' hx hy
      simp only [Option.some.injEq] at e
      subst e
      obtain ⟨c1, c2, rfl, h1, h2⟩ := h
      refine ⟨c1, c2, rfl, ihx hx (q := .l :: q) h1, ?_⟩
      rw [(lower_size hx).1]
      exact ihy hy (q := .r x.size :: q) h2
    · simp at e
  | unit => intro r e q cs h; simp only [AV.lower, Option.some.injEq] at e; subst e; exact h
  | tup a ih => intro r e q cs h; simp [AV.lower] at e
  | fn f a ih =>
    intro r e q cs h
    simp only [AV.lower] at e
    cases a <;> simp only [VR] at h <;> first | exact h.elim | skip
    simp only [AV.lower, Option.some.injEq] at e
    subst e
    exact h
  | nils => intro r e q cs h; simp only [AV.lower, Option.some.injEq] at e; subst e; exact h
  | undef => intro r e q cs h; simp [AV.lower] at e

theorem lower_VV {R R' : Cx} {A B : Key} {N : Nat} (hA : A.lv = N) (hB : B.lv = N - 1) (hN : 0 < N) (hZ : R'.Z = R.Z) (hh : R'.h = R.h) (hρ : ∀ q, R'.ρ (B.plus q) = R.ρ (A.plus q))
    (hT : ∀ T : Key, T.lv < N → R.fl T.lv T.s T.bx = true → R'.fl T.lv T.s T.bx = true ∧ R'.ρ T = R.ρ T) {u r : AV} (hl : u.lower = some r) {q : List Stp} {v : Value} (h : VV R u (A.plus q) v) : VV R' r (B.plus q) v := by
  obtain ⟨_, e2, e3, e4⟩ := lower_size hl
  rw [VV_iff (AV.notBad e4).1] at h
  rw [VV_iff (AV.notBad e3).1, e2]
  split at h
  · rename_i hg; rw [if_pos hg]; obtain ⟨arr, e, h⟩ := h; exact ⟨arr, e, lower_VR hA hB hN hZ hh hρ hT hl h⟩
  · rename_i hg; rw [if_neg hg]; exact lower_VR hA hB hN hZ hh hρ hT hl h

theorem lower_SV {R R' : Cx} {A B : Key} {N : Nat} (hA : A.lv = N) (hB : B.lv = N - 1) (hN : 0 < N) (hZ : R'.Z = R.Z) (hh : R'.h = R.h) (hρ : ∀ q, R'.ρ (B.plus q) = R.ρ (A.plus q))
    (hT : ∀ T : Key, T.lv < N → R.fl T.lv T.s T.bx = true → R'.fl T.lv T.s T.bx = true ∧ R'.ρ T = R.ρ T) {u r : AV} (hl : u.lower = some r) {t : Bool} {v : Value} (h : SV R (asTup t u) A v) : SV R' (asTup t r) B v := by
  have tupc : ∀ {u r : AV}, u.lower = some r → ∀ {q : List Stp} {vs : List Value}, TupR R u (A.plus q) vs → TupR R' r (B.plus q) vs := by
    intro u
    induction u with
    | pair x y ihx ihy =>
      intro r e q vs h
      simp only [AV.lower] at e
      split at e
      · rename_i x' y' hx hy
        simp only [Option.some.injEq] at e
        subst e
        obtain ⟨v, rr, rfl, h1, h2⟩ := h
        exact ⟨v, rr, rfl, lower_VV hA hB hN hZ hh hρ hT hx (q := .l :: q) h1, ihy hy (q := .r 0 :: q) h2⟩
      · simp at e
    | unit => intro r e q vs h; simp only [AV.lower, Option.some.injEq] at e; subst e; exact h
    | _ => intro r e q vs h; exact h.elim
  cases t with
  | true =>
    obtain ⟨vs, rfl, h⟩ := h
    exact ⟨vs, rfl, tupc hl (q := []) h⟩
  | false =>
    obtain ⟨_, _, e3, e4⟩ := lower_size hl
    have h : SV R u A v := h
    show SV R' r B v
    rw [SV_VV (AV.notBad e4).2] at h
    rw [SV_VV (AV.notBad e3).2]
    exact lower_VV hA hB hN hZ hh hρ hT hl (q := []) h

theorem ArgsR.length {R : Cx} {K : Key} : ∀ {as : List AV} {vs : List Value}, ArgsR R K as vs → as.length = vs.length := by
  intro as
  induction as with
  | nil => intro vs h; cases vs <;> first | rfl | exact h.elim
  | cons a as ih => intro vs h; cases vs with
    | nil => exact h.elim
    | cons v vs => simp only [List.length_cons, ih h.2]

theorem ArgsR.get {R : Cx} {K : Key} : ∀ {as : List AV} {vs : List Value}, ArgsR R K as vs → ∀ (i : Nat) (a : AV), as[i]? = some a → ∃ v, vs[i]? = some v ∧ SV R a K v := by
  intro as
  induction as with
  | nil => intro vs h i a hi; simp at hi
  | cons a as ih => intro vs h i b hi; cases vs with
    | nil => exact h.elim
    | cons v vs =>
      cases i with
      | zero => simp only [List.getElem?_cons_zero, Option.some.injEq] at hi; subst hi; exact ⟨v, rfl, h.1⟩
      | succ i => simpa using ih h.2 i b (by simpa using hi)

theorem isD_own : ∀ {v : AV}, v.isD = true → v.hasOwn = false := by
  intro v
  induction v with
  | pair a b iha ihb => intro h; simp only [AV.isD, Bool.and_eq_true] at h; simp only [AV.hasOwn, iha h.1, ihb h.2, Bool.or_self]
  | d s x => intro _; rfl
  | dp s x => intro _; rfl
  | unit => intro _; rfl
  | _ => intro h; simp [AV.isD] at h

/-- A function that is handed data does what its evaluation says. -/
theorem norm_SV {R : Cx} {v : AV} {K : Key} {val : Value} (h : SV R v K val) : SV R v.norm K val := by
  cases v with
  | d s x =>
    simp only [AV.norm]
    cases hs : s.isPtr with
    | false => exact h
    | true =>
      cases s with
      | ptr s =>
        cases x with
        | none => exact h
        | some x =>
          have h : DR R.Z R.h (.ptr s) (some x) [val] := h
          rcases h with ⟨e, _⟩ | ⟨y, b, off, arr, el, fr, c, r, e1, e2, hb, hc, e3, h2⟩
          · cases e
          · cases e1; exact ⟨b, off, arr, el, fr, c, r, e2, hb, hc, e3, h2⟩
      | _ => simp [Sh.isPtr] at hs
  | _ => exact h

theorem norm_isD {v : AV} (h : v.isD = true) : v.norm.isD = true := by
  cases v with
  | d s x =>
    simp only [AV.norm]
    cases hs : s.isPtr with
    | false => rfl
    | true =>
      cases s with
      | ptr s => cases x <;> rfl
      | _ => simp [Sh.isPtr] at hs
  | _ => exact h

theorem pureC_of {P : Program} {E : Env} (hE : EnvOk P E) {C : Orc} (hC : OrcOk P E C) {keep : Nat → List Nat} {f : Nat} {fn : Func} (hf : P.funcs[f]? = some fn) (hname : (fn.name == "runtime.NumGoroutine") = false) {body : Code} (hb : fn.body = some body) {n : Nat} (hn : fn.ntmps = n)
    {rs : List ResultVar} (hrs : fn.results.toList = rs) {ss : List Sh} {args : List AV} (hargs : args.all AV.isD = true) (hlen : args.length ≤ n) {r : Pk} (hev : evFun E C keep ss rs n body args [] fun r' _ => r' = r) : PureC P (rs.length != 1) f args r := by
  refine ⟨⟨fn, hf, hname, by rw [hb]; rfl⟩, ?_⟩
  intro w Z hg vals hZ hvals
  have hvl := hvals.length
  refine calls_of_wp hf hb ?_
  let t0 : Array Value := vals.toArray ++ Array.replicate (fn.ntmps - vals.toArray.size) undef
  let st : St := [startFrm (args.map AV.norm) n]
  let R : Cx := ⟨fun _ => none, Z, w.heap, st.fl⟩
  have hget : ∀ i s sl, st.get i s = some sl → i = 0 ∧ ((s < args.length ∧ ∃ a, args[s]? = some a ∧ sl = argSlot a.norm) ∨ sl = emptySlot) := by
    intro i s sl hg
    cases i with
    | succ i => simp [st, St.get] at hg
    | zero =>
      refine ⟨rfl, ?_⟩
      simp only [st, St.get, List.getElem?_cons_zero, Option.bind_some, startFrm] at hg
      by_cases hs : s < args.length
      · rw [List.getElem?_append_left (by simpa using hs), List.getElem?_map, List.getElem?_map] at hg
        cases ha : args[s]? with
        | none => rw [ha] at hg; simp at hg
        | some a => rw [ha] at hg; simp only [Option.map_some, Option.some.injEq] at hg; exact .inl ⟨hs, a, rfl, hg.symm⟩
      · rw [List.getElem?_append_right (by simpa using hs), List.getElem?_replicate] at hg
        split at hg
        · simp only [Option.some.injEq] at hg; exact .inr hg.symm
        · simp at hg
  have hrel : Rel ⟨w, Z, hg⟩ st [t0] R w := by
    refine ⟨rfl, fun _ _ _ => rfl, rfl, ?_, ?_, ?_, ?_, ?_, ?_, ?_, hZ, RowKit.Below.refl _ _, fun b hb => .inl hb⟩
    · intro i g t hg ht
      cases i with
      | succ i => simp [st] at hg
      | zero =>
        simp only [st, List.getElem?_cons_zero, Option.some.injEq] at hg ht
        subst hg ht
        simp only [startFrm, t0, List.length_append, List.length_map, List.length_replicate, Array.size_append, List.size_toArray, Array.size_replicate, hvl, hn]
    · intro i s sl t hg ht
      obtain ⟨rfl, hc⟩ := hget i s sl hg
      simp only [List.getElem?_cons_zero, Option.some.injEq] at ht
      subst ht
      rcases hc with ⟨hs, a, ha, rfl⟩ | rfl
      · obtain ⟨v, hv, hsv⟩ := hvals.get s a ha
        have hD : a.isD = true := List.all_eq_true.1 hargs a (List.mem_of_getElem? ha)
        have hval : t0.getD s undef = v := by
          have : s < vals.length := by omega
          rw [Array.getD_eq_getD_getElem?]
          simp only [t0]
          rw [Array.getElem?_append_left (by simpa using this)]
          simp [hv]
        rw [hval]
        have h1 : SV R a K00 v := SV.frame (R := Cx.bare Z w.heap) (R' := R) (AV.le_refl a) ⟨fun _ => id, fun _ _ _ => id, fun _ _ => rfl, fun T b n o _ hr => by simp [Cx.bare] at hr⟩ (fun T hT => absurd hT (isD_hits hD)) hsv
        show SV R a.norm (st.kv 0 s) v
        exact SV.move (K := K00) (K' := st.kv 0 s) (isD_own (norm_isD hD)) rfl (norm_SV h1)
      · trivial
    · intro i s sl hg
      obtain ⟨rfl, hc⟩ := hget i s sl hg
      rcases hc with ⟨hs, a, ha, rfl⟩ | rfl
      · exact .inl rfl
      · exact .inl rfl
    · intro K K' b n m e; simp [R] at e
    · intro b _ K n e; simp [R] at e
    · intro K b n e; simp [R] at e
    · intro K b n e; simp [R] at e
  unfold evFun at hev
  rw [normsK_eq] at hev
  refine evCode_ok hE hC (w0 := ⟨w, Z, hg⟩) (ts := []) [] body (a := { tmps := t0, defers := [] }) hrel rfl hev ?_
  intro e st' a' R' w' hk hd h'
  have fin : ((retM E ss rs).wp C st' fun v st' => ∃ w r', v.pack = some w ∧ w.as (rs.length == 1) r' ∧ r' = r) → a'.defers = [] ∧ ∃ v, (results fn a'.tmps).run P w' = .ok v w' ∧ ∃ v' R'', Ending.returned v = .returned v' ∧ Rel ⟨w, Z, hg⟩ [] [] R'' w' ∧ SV R'' (asTup (rs.length != 1) (unpackT (rs.length != 1) r)) K00 v' := by
    intro hk
    obtain ⟨v, r', st2, R2, hrun, hrr, hl2, h2, hsv⟩ := ret_ok (P := P) hE hrs h' (k := fun r' _ => r' = r) hk
    subst hrr
    refine ⟨hd, v, hrun, v, ?_⟩
    have hlen2 : st2.length = 1 := by have := h2.len; simpa using this
    obtain ⟨g, rfl⟩ := List.length_eq_one_iff.1 hlen2
    obtain ⟨R3, h3, hz3, hh3, hρ3, _⟩ := h2.popped
    exact ⟨R3, rfl, h3, ret_rekey (R := R2) (R' := R3) (A := St.hand [g] 0) (B := K00) (.inl fun b hb => by rw [hz3]; exact hb) hh3 (fun q => hρ3 q) hsv⟩
  cases e with
  | normal => exact fin hk
  | exit id => exact hk.elim
  | ret => exact fin hk

end Go.Proofs.Ytlndfmmigndgeaa.Ev

/- Functions that are handed views of the caller's places. -/
namespace Go.Proofs.Ytlndfmmigndgeaa.Ev
open Go
set_option linter.unusedSimpArgs false
set_option linter.unusedVariables false

/-- A value as the called frame sees it. -/
def AV.inner (v : AV) : AV := viewOf ⟨⟨1, 0, false⟩, []⟩ v

theorem inlC_of {P : Program} {E : Env} (hE : EnvOk P E) {C : Orc} (hC : OrcOk P E C) {keep : Nat → List Nat} {f : Nat} {fn : Func} (hf : P.funcs[f]? = some fn) (hname : (fn.name == "runtime.NumGoroutine") = false) {body : Code} (hb : fn.body = some body) {n : Nat} (hn : fn.ntmps = n)
    {rs : List ResultVar} (hrs : fn.results.toList = rs) {ss : List Sh} {vs : List AV} {st : St} (hst : 0 < st.length) (hgood : vs.all (fun v => !v.isBad) = true) (hlen : vs.length ≤ n) {r : AV} {st2 : St}
    (hev : evInl E C keep ss rs n body (vs.map AV.inner) st fun r' st' => r' = r ∧ st' = st2) : InlC P (rs.length != 1) f vs st r st2 := by
  refine ⟨⟨fn, hf, hname, by rw [hb]; rfl⟩, ?_⟩
  intro w0 w ts R vals h hvals hos
  have hargs := hvals ⟨st.length - 1, 0, false, []⟩ rfl
  have hvl := hargs.length
  refine calls_of_wp hf hb ?_
  let t0 : Array Value := vals.toArray ++ Array.replicate (fn.ntmps - vals.toArray.size) undef
  let fr : Frm := startFrm (vs.map AV.inner) n
  let st1 : St := fr :: st
  let R1 : Cx := { R with fl := st1.fl }
  have hget : ∀ (s : Nat) (sl : Slot), fr[s]? = some sl → (∃ a : AV, vs[s]? = some a ∧ sl = argSlot a.inner) ∨ sl = emptySlot := by
    intro s sl hg
    simp only [fr, startFrm] at hg
    by_cases hs : s < vs.length
    · rw [List.getElem?_append_left (by simpa using hs), List.getElem?_map, List.getElem?_map] at hg
      cases ha : vs[s]? with
      | none => rw [ha] at hg; simp at hg
      | some a => rw [ha] at hg; simp only [Option.map_some, Option.some.injEq] at hg; exact .inl ⟨a, rfl, hg.symm⟩
    · rw [List.getElem?_append_right (by simpa using hs), List.getElem?_replicate] at hg
      split at hg
      · simp only [Option.some.injEq] at hg; exact .inr hg.symm
      · simp at hg
  have hfl : ∀ lv m bx, lv < st.length → st1.fl lv m bx = st.fl lv m bx := by
    intro lv m bx hl
    have e : st.length + 1 - 1 - lv = (st.length - 1 - lv) + 1 := by omega
    have hg : ∀ i s, St.get st1 (i + 1) s = st.get i s := by intro i s; simp [st1, St.get]
    simp only [St.fl, st1, List.length_cons, e]
    rw [show St.get (fr :: st) (st.length - 1 - lv + 1) m = st.get (st.length - 1 - lv) m from hg _ _]
    have h1 : decide (lv < st.length + 1) = true := by simp; omega
    have h2 : decide (lv < st.length) = true := by simp; omega
    rw [h1, h2]
  have frame : ∀ {K : Key} {v : AV}, K.lv < st.length → R.Ok R1 K v := by
    intro K v hl
    refine ⟨⟨fun _ => id, fun _ _ _ => id, fun _ _ => rfl, fun _ _ _ _ _ _ => id⟩, fun T hT e => ⟨?_, .inr ⟨rfl, fun b n arr el _ e => ⟨arr, e, rfl⟩⟩⟩⟩
    show st1.fl T.lv T.s T.bx = true
    rw [hfl _ _ _ (Nat.lt_of_le_of_lt (hits_lv_le hT) hl), ← h.fl]
    exact e
  have hrel : Rel w0 st1 (t0 :: ts) R1 w := by
    refine ⟨h.hh, fun _ _ _ => rfl, by simp [st1, h.len], ?_, ?_, ?_, h.inj, h.zd, h.lo, h.lt, h.zlt, h.bel, h.zlo⟩
    · intro i g t hg ht
      cases i with
      | zero =>
        simp only [st1, List.getElem?_cons_zero, Option.some.injEq] at hg ht
        subst hg ht
        simp only [fr, startFrm, t0, List.length_append, List.length_map, List.length_replicate, Array.size_append, List.size_toArray, Array.size_replicate, hvl, hn]
      | succ i => exact h.sz i g t (by simpa [st1] using hg) (by simpa using ht)
    · intro i s sl t hg ht
      cases i with
      | zero =>
        simp only [List.getElem?_cons_zero, Option.some.injEq] at ht
        subst ht
        have hg : fr[s]? = some sl := by simpa [st1, St.get] using hg
        rcases hget s sl hg with ⟨a, ha, rfl⟩ | rfl
        · obtain ⟨v, hv, hsv⟩ := hargs.get s a ha
          have hs : s < vals.length := by have := (List.getElem?_eq_some_iff.1 ha).1; omega
          have hval : t0.getD s undef = v := by
            rw [Array.getD_eq_getD_getElem?]
            simp only [t0]
            rw [Array.getElem?_append_left (by simpa using hs)]
            simp [hv]
          rw [hval]
          have hb : a.isBad = false := by
            have := List.all_eq_true.1 hgood a (List.mem_of_getElem? ha)
            simpa using this
          have ho := hos a (List.mem_of_getElem? ha)
          have h1 : SV R1 a ⟨st.length - 1, 0, false, []⟩ v := by
            obtain ⟨q1, q2⟩ := frame (K := ⟨st.length - 1, 0, false, []⟩) (v := a) (by show st.length - 1 < st.length; omega)
            exact SV.frame (AV.le_refl _) q1 q2 hsv
          show SV R1 a.inner (st1.kv 0 s) v
          refine viewOf_SV (q := ⟨⟨1, 0, false⟩, []⟩) (K := ⟨st.length - 1, 0, false, []⟩) ?_ ?_ (fun e => by rw [ho] at e; simp at e) hb h1
          · simp [Key.at, St.kv, st1]
          · simp [St.kv, st1]; omega
        · trivial
      | succ i =>
        have hg : st.get i s = some sl := by simpa [st1, St.get] using hg
        have := h.slot i s sl t hg (by simpa using ht)
        have hi := St.get_lt hg
        have e : St.kv st1 (i + 1) s = st.kv i s := by simp only [St.kv, st1, List.length_cons, Key.mk.injEq, and_true]; omega
        rw [e]
        obtain ⟨q1, q2⟩ := frame (K := st.kv i s) (v := sl.v) (by simp only [St.kv]; omega)
        exact SV.frame (AV.le_refl _) q1 q2 this
    · intro i s sl hg
      cases i with
      | zero =>
        have hg : fr[s]? = some sl := by simpa [st1, St.get] using hg
        rcases hget s sl hg with ⟨a, ha, rfl⟩ | rfl
        · exact .inl rfl
        · exact .inl rfl
      | succ i =>
        have hg : st.get i s = some sl := by simpa [st1, St.get] using hg
        have := h.box i s sl hg
        have hi := St.get_lt hg
        have e : St.kb st1 (i + 1) s = st.kb i s := by simp only [St.kb, st1, List.length_cons, Key.mk.injEq, and_true]; omega
        rw [e]
        obtain ⟨q1, q2⟩ := frame (K := st.kb i s) (v := sl.b) (by simp only [St.kb]; omega)
        exact BoxR.frame (AV.le_refl _) q1 q2 this
  unfold evInl at hev
  refine evCode_ok hE hC (w0 := w0) (ts := ts) [] body (a := { tmps := t0, defers := [] }) hrel rfl hev ?_
  intro e st' a' R' w' hk hd h'
  have fin : ((retM E ss rs).wp C st' fun v st' => ∃ r', v.lower = some r' ∧ r' = r ∧ st'.tail = st2) → a'.defers = [] ∧ ∃ v, (results fn a'.tmps).run P w' = .ok v w' ∧ ∃ v' R'', Ending.returned v = .returned v' ∧ Rel w0 st2 ts R'' w' ∧ st2.length = st.length ∧ SV R'' (asTup (rs.length != 1) r) (st2.hand 0) v' := by
    intro hk
    obtain ⟨v, u, r', st3, R2, hrun, hlow, ⟨hrr, htl⟩, hl2, h2, hsv⟩ := ret_okI (P := P) hE hrs h' (k := fun r' st' => r' = r ∧ st' = st2) hk
    subst hrr
    refine ⟨hd, v, hrun, v, ?_⟩
    have hlen2 : st3.length = ts.length + 1 := by have := h2.len; simpa using this
    have hts : st.length = ts.length := h.len
    cases st3 with
    | nil => simp at hlen2
    | cons g o =>
      simp only [List.tail_cons] at htl
      subst htl
      obtain ⟨R3, h3, hz3, hh3, hρ3, hT3⟩ := h2.popped
      have hol : o.length = ts.length := by simpa using hlen2
      have hlenpos : 0 < o.length := by rw [hol, ← hts]; exact hst
      refine ⟨R3, rfl, h3, by rw [hol, hts], lower_SV (A := St.hand (g :: o) 0) (B := St.hand o 0) (N := o.length) (by simp [St.hand]) (by simp [St.hand]) hlenpos hz3 hh3 hρ3 hT3 hlow hsv⟩
  cases e with
  | normal => exact fin hk
  | exit id => exact hk.elim
  | ret => exact fin hk

end Go.Proofs.Ytlndfmmigndgeaa.Ev

/- Arguments of a row, read as data. -/
namespace Go.Proofs.Ytlndfmmigndgeaa.Ev
open Go
set_option linter.unusedSimpArgs false
set_option linter.unusedVariables false

/-- Bytes that a value of a shape takes at least. -/
def bytesSh : Sh → Nat
  | .int k => k.bits / 8
  | .bool => 1
  | .str => 16
  | .sl _ => 24
  | .unit => 0
  | .pair a b => bytesSh a + bytesSh b
  | .fn _ _ => 8
  | .ptr _ => 8

/-- The table tells no fewer bytes of a slice's elements. -/
def EnvB (E : Env) : Prop := ∀ t e, E.sh t = some (.sl e) → bytesSh e ≤ E.bytes t

/-- What data of a row's arguments are like. -/
def WfD : (s : Sh) → s.den → Prop
  | .int k, n => (Lit.int k n).wf = true
  | .str, x => x.size ≤ 140737488351232
  | .pair a b, x => WfD a x.1 ∧ WfD b x.2
  | .sl e, l => l.length * bytesSh e ≤ 140737488351232 ∧ l.length ≤ maxLen ∧ ∀ y, y ∈ l → WfD e y
  | _, _ => True

theorem mapM_cons_some {α β : Type} {f : α → Option β} {a : α} {l : List α} {r : List β} (h : (a :: l).mapM f = some r) : ∃ b r', f a = some b ∧ l.mapM f = some r' ∧ r = b :: r' := by
  simp only [List.mapM_cons, Option.bind_eq_bind, Option.pure_def, Option.bind_eq_some_iff, Option.some.injEq] at h
  obtain ⟨b, hb, r', hr, e⟩ := h
  exact ⟨b, r', hb, hr, e.symm⟩

theorem mapM_range_get {β : Type} {f : Nat → Option β} {n : Nat} {r : List β} (h : (List.range n).mapM f = some r) : r.length = n ∧ ∀ i, i < n → ∃ b, f i = some b ∧ r[i]? = some b := by
  have key : ∀ (m k : Nat) (r : List β), (List.range' k m).mapM f = some r → r.length = m ∧ ∀ i, i < m → ∃ b, f (k + i) = some b ∧ r[i]? = some b := by
    intro m
    induction m with
    | zero => intro k r h; simp at h; subst h; exact ⟨rfl, fun i hi => by omega⟩
    | succ m ih =>
      intro k r h
      rw [List.range'_succ] at h
      obtain ⟨b, r', hb, hr, rfl⟩ := mapM_cons_some h
      obtain ⟨h1, h2⟩ := ih (k + 1) r' hr
      refine ⟨by simp [h1], ?_⟩
      intro i hi
      cases i with
      | zero => exact ⟨b, hb, rfl⟩
      | succ i =>
        obtain ⟨b', e1, e2⟩ := h2 i (by omega)
        exact ⟨b', by rw [← e1]; congr 1; omega, by simpa using e2⟩
  rw [List.range_eq_range'] at h
  obtain ⟨h1, h2⟩ := key n 0 r h
  exact ⟨h1, fun i hi => by simpa using h2 i hi⟩

theorem cellsOf_eq {P : Program} {t : TypeId} {i : TypeInfo} (h : P.info? t = some i) : P.cellsOf t = i.size := by simp [Program.cellsOf, h]

/-- Cells read at an address. -/
theorem cells_at {w : World} {a : Addr} {n : Nat} {c : List Value} (h : w.cells? 0 a n = some c) : c.length = n ∧ (n ≠ 0 → ∃ arr el fr, a.spot = none ∧ w.heap[a.block]? = some (.cells arr el fr) ∧ ∃ r, arr.toList.drop a.off = c ++ r) := by
  unfold World.cells? at h
  rw [if_pos (Nat.zero_le _)] at h
  obtain ⟨h1, h2⟩ := mapM_range_get h
  refine ⟨h1, fun hn => ?_⟩
  have hspot : a.spot = none := by
    obtain ⟨b, e1, _⟩ := h2 0 (by omega)
    have e0 : a.add 0 = a := by unfold Addr.add; simp
    rw [e0] at e1
    unfold World.cell? at e1
    split at e1
    · by_cases hs : a.spot.isSome = true
      · rw [if_pos hs] at e1; simp at e1
      · simpa using hs
    · simp at e1
  have get : ∀ i, i < n → ∃ arr el fr, a.spot = none ∧ w.heap[a.block]? = some (.cells arr el fr) ∧ arr[a.off + i]? = c[i]? := by
    intro i hi
    obtain ⟨b, e1, e2⟩ := h2 i hi
    have ha : a.add i = ⟨a.block, a.off + i, none⟩ := by
      cases a with | mk b o s => simp only at hspot; subst hspot; exact addr_add b o i
    rw [ha] at e1
    unfold World.cell? at e1
    split at e1
    · rename_i arr el fr hh
      simp at e1
      exact ⟨arr, el, fr, hspot, hh, by rw [e2]; simpa using e1⟩
    · simp at e1
  obtain ⟨arr, el, fr, hs, hh, _⟩ := get 0 (by omega)
  refine ⟨arr, el, fr, hs, hh, (arr.toList.drop a.off).drop n, ?_⟩
  apply List.ext_getElem?
  intro i
  by_cases hi : i < n
  · obtain ⟨arr', el', fr', _, hh', e⟩ := get i hi
    rw [hh] at hh'
    cases hh'
    rw [List.getElem?_append_left (by omega), List.getElem?_drop, ← e]
    simp
  · rw [List.getElem?_append_right (by omega), h1]
    simp only [List.getElem?_drop]
    congr 1
    omega

theorem trod_fields {P : Program} {E : Env} (hE : EnvOk P E) {w : World} {α : Type} {g : TypeId → List Value → Option α} {ok : TypeId → α → Prop} (ih : ∀ {t : TypeId} {s : Sh} {cs : List Value} {y : α}, E.sh t = some s → g t cs = some y → ok t y → ∃ x, DR (fun b => b < w.heap.size) w.heap s x cs ∧ WfD s x) :
    ∀ {s : Sh} {fs : List Field} {off : Nat} {cs : List Value} {ys : List α}, fldB P E fs s off = true → fs.mapM (fun f => g f.type ((cs.drop f.offset).take (P.cellsOf f.type))) = some ys → (∀ (i : Nat) (f : Field) (y : α), fs[i]? = some f → ys[i]? = some y → ok f.type y) → ∃ x, DR (fun b => b < w.heap.size) w.heap s x ((cs.drop off).take s.size) ∧ WfD s x := by
  intro s
  induction s with
  | pair a b iha ihb =>
    intro fs off cs ys hb h hok
    cases fs with
    | nil => simp [fldB] at hb
    | cons f fs =>
      simp only [fldB, Bool.and_eq_true, beq_iff_eq, bne_iff_ne, ne_eq] at hb
      obtain ⟨⟨⟨h1, h2⟩, h3⟩, h4⟩ := hb
      obtain ⟨y, ys', e1, e2, rfl⟩ := mapM_cons_some h
      obtain ⟨i, z, hi, hsz, _⟩ := tyB_info (hE.sh _ _ h2)
      rw [cellsOf_eq hi, hsz, h1] at e1
      obtain ⟨x1, d1, w1⟩ := ih h2 e1 (hok 0 f y rfl rfl)
      obtain ⟨x2, d2, w2⟩ := ihb h4 e2 (fun i f y a b => hok (i + 1) f y (by simpa using a) (by simpa using b))
      refine ⟨(x1, x2), ⟨_, _, ?_, d1, d2⟩, w1, w2⟩
      rw [show (Sh.pair a b).size = a.size + b.size from rfl, List.take_add, List.drop_drop]
  | unit =>
    intro fs off cs ys hb h hok
    exact ⟨(), by simp [DR, Sh.size], trivial⟩
  | _ => intro fs off cs ys hb h; cases fs <;> simp [fldB] at hb

theorem segBuild {α : Type} {Q : α → List Value → Prop} {W : α → Prop} {cs : List Value} {off z : Nat} : ∀ (m k : Nat), (∀ i, k ≤ i → i < k + m → ∃ c r x, cs.drop (off + i * z) = c ++ r ∧ c.length = z ∧ Q x c ∧ W x) → ∃ l : List α, l.length = m ∧ Seg Q l (cs.drop (off + k * z)) ∧ ∀ y, y ∈ l → W y := by
  intro m
  induction m with
  | zero => intro k _; exact ⟨[], rfl, trivial, fun y hy => by simp at hy⟩
  | succ m ih =>
    intro k h
    obtain ⟨c, r, x, h1, h2, h3, h4⟩ := h k (Nat.le_refl _) (by omega)
    obtain ⟨l, l1, l2, l3⟩ := ih (k + 1) (fun i a b => h i (by omega) (by omega))
    refine ⟨x :: l, by simp [l1], ⟨c, r, h1, h3, ?_⟩, fun y hy => ?_⟩
    · have e : off + (k + 1) * z = off + k * z + z := by rw [Nat.succ_mul]; omega
      rw [e, ← List.drop_drop, h1, ← h2] at l2
      simpa using l2
    · rcases List.mem_cons.1 hy with rfl | hy
      · exact h4
      · exact l3 y hy

theorem weightsEach_get {H : Type} {P : Program} : ∀ {ts : List TypeId} {ds : List (DataW H)} (i : Nat) {t : TypeId} {d : DataW H}, ts[i]? = some t → ds[i]? = some d → ∀ n, n ∈ d.weights P t → n ∈ DataW.weightsEach P ts ds := by
  intro ts
  induction ts with
  | nil => intro ds i t d h; simp at h
  | cons t0 ts ih =>
    intro ds i t d h1 h2 n hn
    cases ds with
    | nil => simp at h2
    | cons d0 ds =>
      simp only [DataW.weightsEach, List.mem_append]
      cases i with
      | zero => simp only [List.getElem?_cons_zero, Option.some.injEq] at h1 h2; subst h1 h2; exact .inl hn
      | succ i => exact .inr (ih i (by simpa using h1) (by simpa using h2) n hn)

theorem weightsAll_get {H : Type} {P : Program} {e : TypeId} : ∀ {ds : List (DataW H)} {d : DataW H}, d ∈ ds → ∀ n, n ∈ d.weights P e → n ∈ DataW.weightsAll P e ds := by
  intro ds
  induction ds with
  | nil => intro d h; simp at h
  | cons d0 ds ih =>
    intro d h n hn
    simp only [DataW.weightsAll, List.mem_append]
    rcases List.mem_cons.1 h with rfl | h
    · exact .inl hn
    · exact .inr (ih h n hn)

/-- What a row reads as data is frozen data. -/
theorem trod_DR {P : Program} {E : Env} (hE : EnvOk P E) {H : Type} {enc : TypeId × Value → H} {w : World} {spare : Nat → Bool} {held : Bool} (hB : EnvB E) : ∀ (fuel : Nat) {t : TypeId} {s : Sh} {cs : List Value} {y : DataW H × List MemPlace}, E.sh t = some s →
    DataW.trod enc P w 0 spare held fuel t cs = some y → (∀ n, n ∈ y.1.weights P t → n ≤ reachBytes) → ∃ x, DR (fun b => b < w.heap.size) w.heap s x cs ∧ WfD s x := by
  intro fuel
  induction fuel with
  | zero => intro t s cs y _ h _; simp [DataW.trod] at h
  | succ fuel ih =>
    intro t s cs y hs h hwt
    have hty := hE.sh _ _ hs
    unfold DataW.trod at h
    cases s with
    | fn f c => exact absurd hty (by rw [tyB_fn]; simp)
    | ptr s => exact absurd hty (by rw [tyB_ptr]; simp)
    | int k =>
      rw [(tyB_scalar hty).1 k rfl] at h
      split at h <;> rename_i e <;> simp at e <;> try (simp at h; done)
      subst e
      split at h
      · rename_i hc; obtain ⟨rfl, hwf⟩ := hc; exact ⟨_, rfl, hwf⟩
      · simp at h
    | bool =>
      rw [(tyB_scalar hty).2.2 rfl] at h
      split at h <;> rename_i e <;> simp at e <;> try (simp at h; done)
      exact ⟨_, rfl, trivial⟩
    | str =>
      rw [(tyB_scalar hty).2.1 rfl] at h
      split at h <;> rename_i e <;> simp at e <;> try (simp at h; done)
      split at h
      · rename_i s0 hc
        simp only [Option.some.injEq] at h
        subst h
        refine ⟨_, rfl, ?_⟩
        have := hwt s0.data.toList.length (by simp [DataW.weights])
        simp only [reachBytes] at this
        show s0.size ≤ _
        have e : s0.data.toList.length = s0.size := Array.length_toList
        omega
      · simp at h
    | unit =>
      obtain ⟨fs, hu, hb⟩ := tyB_fld hty rfl
      obtain ⟨i, z, hi, hsz, _⟩ := tyB_info hty
      rw [hu] at h
      have hst : ∃ ys, cs.length = P.cellsOf t ∧ (fs.toList.mapM fun f => DataW.trod enc P w 0 spare held fuel f.type ((cs.drop f.offset).take (P.cellsOf f.type))) = some ys ∧ y.1 = .agg (ys.map (·.1)) := by
        split at h
        all_goals first
          | (exfalso; simp_all; done)
          | skip
        rename_i fs' e
        simp only [Option.some.injEq, TypeDesc.struct.injEq] at e
        subst e
        split at h
        · rename_i hl
          simp only [Option.map_eq_some_iff] at h
          obtain ⟨ys, hys, rfl⟩ := h
          exact ⟨ys, hl, hys, rfl⟩
        · simp at h
      obtain ⟨ys, hl, hys, hagg⟩ := hst
      obtain ⟨x, hx, hw⟩ := trod_fields hE (w := w) (g := fun t cs => DataW.trod enc P w 0 spare held fuel t cs) (ok := fun t y => ∀ n, n ∈ y.1.weights P t → n ≤ reachBytes) (fun h1 h2 h3 => ih h1 h2 h3) hb hys (by
        intro i f y' h1 h2 n hn
        refine hwt n ?_
        rw [hagg]
        simp only [DataW.weights, hu]
        exact weightsEach_get i (t := f.type) (d := y'.1) (by rw [List.getElem?_map, h1]; rfl) (by rw [List.getElem?_map, h2]; rfl) n hn)
      rw [cellsOf_eq hi, hsz] at hl
      rw [List.drop_zero, ← hl, List.take_length] at hx
      exact ⟨x, hx, hw⟩
    | pair a b =>
      obtain ⟨fs, hu, hb⟩ := tyB_fld hty rfl
      obtain ⟨i, z, hi, hsz, _⟩ := tyB_info hty
      rw [hu] at h
      have hst : ∃ ys, cs.length = P.cellsOf t ∧ (fs.toList.mapM fun f => DataW.trod enc P w 0 spare held fuel f.type ((cs.drop f.offset).take (P.cellsOf f.type))) = some ys ∧ y.1 = .agg (ys.map (·.1)) := by
        split at h
        all_goals first
          | (exfalso; simp_all; done)
          | skip
        rename_i fs' e
        simp only [Option.some.injEq, TypeDesc.struct.injEq] at e
        subst e
        split at h
        · rename_i hl
          simp only [Option.map_eq_some_iff] at h
          obtain ⟨ys, hys, rfl⟩ := h
          exact ⟨ys, hl, hys, rfl⟩
        · simp at h
      obtain ⟨ys, hl, hys, hagg⟩ := hst
      obtain ⟨x, hx, hw⟩ := trod_fields hE (w := w) (g := fun t cs => DataW.trod enc P w 0 spare held fuel t cs) (ok := fun t y => ∀ n, n ∈ y.1.weights P t → n ≤ reachBytes) (fun h1 h2 h3 => ih h1 h2 h3) hb hys (by
        intro i f y' h1 h2 n hn
        refine hwt n ?_
        rw [hagg]
        simp only [DataW.weights, hu]
        exact weightsEach_get i (t := f.type) (d := y'.1) (by rw [List.getElem?_map, h1]; rfl) (by rw [List.getElem?_map, h2]; rfl) n hn)
      rw [cellsOf_eq hi, hsz] at hl
      rw [List.drop_zero, ← hl, List.take_length] at hx
      exact ⟨x, hx, hw⟩
    | sl e =>
      obtain ⟨et, j, hu, he, hne, hj, hjs, hjb⟩ := sl_info hE hs
      have hcell : P.cellsOf et = e.size := by rw [cellsOf_eq hj, hjs]
      rw [hu] at h
      have hcs : cs = [.slice none 0 0] ∨ ∃ a len cap, cs = [.slice (some a) len cap] ∧ len ≤ cap ∧ cap ≤ maxLen ∧ len * bytesSh e ≤ 140737488351232 ∧ ∀ i, i < len → ∃ c y, w.cells? 0 (a.add (i * e.size)) e.size = some c ∧ DataW.trod enc P w 0 spare held fuel et c = some y ∧ ∀ n, n ∈ y.1.weights P et → n ≤ reachBytes := by
        split at h
        all_goals first
          | (exfalso; simp_all; done)
          | skip
        · exact .inl rfl
        · rename_i et' a len cap e1
          simp only [Option.some.injEq, TypeDesc.slice.injEq] at e1
          subst e1
          refine .inr ⟨a, len, cap, rfl, ?_⟩
          simp only at h
          split at h
          · rename_i hc
            simp only [Option.bind_eq_some_iff] at h
            obtain ⟨elems, hel, h⟩ := h
            obtain ⟨hlen, hget⟩ := mapM_range_get hel
            simp only [Option.map_eq_some_iff] at h
            obtain ⟨rest, _, rfl⟩ := h
            have hb1 := hB t e hs
            have hb2 : P.bytesOf et = E.bytes t := by simp only [Program.bytesOf, hj, Option.map_some, Option.getD_some]; assumption
            have hw0 := hwt ((elems.length + rest.length) * P.bytesOf et) (by simp [DataW.weights, hu])
            refine ⟨hc.2.1, hc.2.2, ?_, fun i hi => ?_⟩
            · rw [hb2] at hw0
              have h1 : len * bytesSh e ≤ len * E.bytes t := Nat.mul_le_mul_left _ hb1
              have h2 : len * E.bytes t ≤ (elems.length + rest.length) * E.bytes t := Nat.mul_le_mul_right _ (by omega)
              simp only [reachBytes] at hw0
              omega
            obtain ⟨b, e1, e2⟩ := hget i hi
            rw [hcell] at e1
            simp only [Option.bind_eq_some_iff] at e1
            obtain ⟨c, hc1, hc2⟩ := e1
            refine ⟨c, b, hc1, hc2, fun n hn => hwt n ?_⟩
            simp only [DataW.weights, hu, List.mem_cons, List.mem_append]
            refine .inr (.inl (weightsAll_get (d := b.1) ?_ n hn))
            exact List.mem_map.2 ⟨b, List.mem_of_getElem? e2, rfl⟩
          · simp at h
      rcases hcs with rfl | ⟨a, len, cap, rfl, h1, h2, hsz, hget⟩
      · exact ⟨[], .inl ⟨rfl, none, 0, rfl⟩, by simp, by simp [maxLen], fun y hy => by simp at hy⟩
      · by_cases h0 : len = 0
        · subst h0
          exact ⟨[], .inl ⟨rfl, some a, cap, rfl⟩, by simp, by simp [maxLen], fun y hy => by simp at hy⟩
        · obtain ⟨c0, y0, hc0, _, _⟩ := hget 0 (by omega)
          have ha0 : a.add (0 * e.size) = a := by rw [Nat.zero_mul]; unfold Addr.add; simp
          rw [ha0] at hc0
          obtain ⟨arr, el, fr, hsp, hh, _⟩ := (cells_at hc0).2 hne
          have ha : ∀ n, a.add n = ⟨a.block, a.off + n, none⟩ := by
            intro n
            cases a with | mk b o s => simp only at hsp; subst hsp; exact addr_add b o n
          obtain ⟨l, l1, l2, l3⟩ := segBuild (Q := DR (fun b => b < w.heap.size) w.heap e) (W := WfD e) (cs := arr.toList) (off := a.off) (z := e.size) len 0 (fun i _ hi => by
            obtain ⟨c, y, hc, hy, hyw⟩ := hget i (by omega)
            obtain ⟨x, hx, hwx⟩ := ih he hy hyw
            rw [ha] at hc
            obtain ⟨hcl, hca⟩ := cells_at hc
            obtain ⟨arr', el', fr', _, hh', r, hr⟩ := hca hne
            simp only at hh' hr
            rw [hh] at hh'
            cases hh'
            exact ⟨c, r, x, hr, hcl, hx, hwx⟩)
          refine ⟨l, .inr ⟨a.block, a.off, cap, arr, el, fr, ?_, by omega, (Array.getElem?_eq_some_iff.1 hh).1, hh, by simpa using l2⟩, by rw [l1]; exact hsz, by simp only [l1]; omega, l3⟩
          rw [l1]
          congr 3
          cases a with | mk b o s => simp only at hsp; subst hsp; rfl

end Go.Proofs.Ytlndfmmigndgeaa.Ev

/- Arguments of a row as values of the evaluator. -/
namespace Go.Proofs.Ytlndfmmigndgeaa.Ev
open Go
set_option linter.unusedSimpArgs false
set_option linter.unusedVariables false

theorem arg_SV {P : Program} {E : Env} (hE : EnvOk P E) (hB : EnvB E) {H : Type} {enc : TypeId × Value → H} {w : World} {spare : Nat → Bool} {held : Bool} {r : Reach} {base : Nat} {t : TypeId} {s : Sh} {v : Value} {d : DataW H} {ps : List MemPlace} (hs : E.sh t = some s)
    (hok : Value.okWide P w r base t v) (h : DataW.Trod enc P w 0 spare held t v d ps) (hw : ∀ n, n ∈ d.weights P t → n ≤ reachBytes) : ∃ x : s.den, SV (Cx.bare (fun b => b < w.heap.size) w.heap) (.d s x) K00 v ∧ WfD s x := by
  obtain ⟨fuel, hf⟩ := h
  obtain ⟨x, hd, hx⟩ := trod_DR hE hB fuel hs hf hw
  refine ⟨x, ?_, hx⟩
  have hty := hE.sh _ _ hs
  have one : v.oneCell' = true → s.isAgg = false → SV (Cx.bare (fun b => b < w.heap.size) w.heap) (.d s x) K00 v := by
    intro h1 h2
    rw [SV_VV (by intro y e; cases e), VV_iff (by intro e; cases e)]
    show (if s.isAgg then _ else _)
    rw [h2]
    rw [cells_one h1] at hd
    exact hd
  have agg : s.isAgg = true → SV (Cx.bare (fun b => b < w.heap.size) w.heap) (.d s x) K00 v := by
    intro h2
    obtain ⟨fs, hu, _⟩ := tyB_fld hty h2
    unfold Value.okWide at hok
    rw [hu] at hok
    obtain ⟨cs, rfl, _⟩ := hok
    rw [SV_VV (by intro y e; cases e), VV_iff (by intro e; cases e)]
    show (if s.isAgg then _ else _)
    rw [h2]
    exact ⟨cs, rfl, hd⟩
  cases s with
  | fn f c => exact absurd hty (by rw [tyB_fn]; simp)
  | ptr s => exact absurd hty (by rw [tyB_ptr]; simp)
  | int k => obtain ⟨n, rfl⟩ := WideShapes.okWide_int ((tyB_scalar hty).1 k rfl) hok; exact one rfl rfl
  | bool => obtain ⟨n, rfl⟩ := WideShapes.okWide_bool ((tyB_scalar hty).2.2 rfl) hok; exact one rfl rfl
  | str => obtain ⟨n, rfl⟩ := WideShapes.okWide_string ((tyB_scalar hty).2.1 rfl) hok; exact one rfl rfl
  | unit => exact agg rfl
  | pair a b => exact agg rfl
  | sl e =>
    obtain ⟨et, j, hu, _⟩ := sl_info hE hs
    obtain ⟨a, len, cap, rfl⟩ := WideShapes.okWide_slice hu hok
    exact one rfl rfl

end Go.Proofs.Ytlndfmmigndgeaa.Ev

/- A law's call. -/
namespace Go.Proofs.Ytlndfmmigndgeaa.Ev
open Go
set_option linter.unusedSimpArgs false
set_option linter.unusedVariables false

def truePk : Pk := ⟨.bool, .fz, true⟩

/-- A law that returns true, whatever the data. -/
theorem law_calls {P : Program} {f : Nat} {as : List AV} (h : PureC P false f as truePk) {W : World} (hg : GOk W) {vals : List Value} (hv : ArgsR (Cx.bare (fun b => b < W.heap.size) W.heap) K00 as vals) :
    Calls P f vals.toArray W fun e W' => e = .returned (.bool true) ∧ RowKit.Below W.heap.size W W' := by
  refine Calls.mono' (h.run W (fun b => b < W.heap.size) hg vals (fun _ => id) hv) ?_
  rintro e w' ⟨v, R', rfl, hr, hsv⟩
  have : v = .bool true := SV_bool (R := R') (K := K00) hsv
  exact ⟨by rw [this], hr.bel⟩

end Go.Proofs.Ytlndfmmigndgeaa.Ev

/- Functions whose contracts are known by other roads: data in, data out. -/
namespace Go.Proofs.Ytlndfmmigndgeaa.Ev
open Go
set_option linter.unusedSimpArgs false
set_option linter.unusedVariables false

/-- The value that scalar data is. -/
def scalV : AV → Option Value
  | .d (.int k) n => some (.int k n)
  | .d .bool b => some (.bool b)
  | .d .str s => some (.string s)
  | _ => none
def scalL : List AV → Option (List Value)
  | [] => some []
  | a :: r => match scalV a, scalL r with
    | some v, some vs => some (v :: vs)
    | _, _ => none

theorem scalV_SV {R : Cx} {K : Key} {a : AV} {u v : Value} (h : scalV a = some u) (hs : SV R a K v) : v = u := by
  cases a with
  | d s x =>
    cases s <;> simp only [scalV, Option.some.injEq, reduceCtorEq] at h <;> subst h
    · have hs : [v] = [_] := hs; simpa using hs
    · have hs : [v] = [_] := hs; simpa using hs
    · have hs : [v] = [_] := hs; simpa using hs
  | _ => simp [scalV] at h

theorem scalL_args {R : Cx} {K : Key} : ∀ {as : List AV} {us vs : List Value}, scalL as = some us → ArgsR R K as vs → vs = us := by
  intro as
  induction as with
  | nil => intro us vs h ha; simp only [scalL, Option.some.injEq] at h; subst h; cases vs <;> first | rfl | exact ha.elim
  | cons a as ih =>
    intro us vs h ha
    simp only [scalL] at h
    split at h
    · rename_i u us' h1 h2
      simp only [Option.some.injEq] at h
      subst h
      cases vs with
      | nil => exact ha.elim
      | cons v vs => rw [scalV_SV h1 ha.1, ih h2 ha.2]
    · simp at h

theorem bare_Rel {w w' : World} {Z : Nat → Prop} (hg : GOk w) (hZ : ∀ b, Z b → b < w.heap.size) (hb : RowKit.Below w.heap.size w w') : Rel ⟨w, Z, hg⟩ [] [] (Cx.bare Z w'.heap) w' := by
  refine ⟨rfl, ?_, rfl, ?_, ?_, ?_, ?_, ?_, ?_, ?_, fun b h => Nat.lt_of_lt_of_le (hZ b h) hb.size, hb, fun b h => .inl h⟩
  · intro lv s bx; simp [Cx.bare, St.fl]
  · intro i f t h; simp at h
  · intro i s sl t h; simp [St.get] at h
  · intro i s sl h; simp [St.get] at h
  · intro K K' b n m e; simp [Cx.bare] at e
  · intro b _ K n e; simp [Cx.bare] at e
  · intro K b n e; simp [Cx.bare] at e
  · intro K b n e; simp [Cx.bare] at e

theorem pureC_calls {P : Program} {f : Nat} {args : List AV} {r : Pk} {t : Bool} (hf : ∃ fn, P.funcs[f]? = some fn ∧ (fn.name == "runtime.NumGoroutine") = false ∧ fn.body.isNone = false) {us : List Value} (hs : scalL args = some us) {res : Value}
    (hr : ∀ R, SV R (asTup t (unpackT t r)) K00 res) (hc : ∀ w, GOk w → Calls P f us.toArray w fun e w' => e = .returned res ∧ RowKit.Below w.heap.size w w') : PureC P t f args r := by
  refine ⟨hf, ?_⟩
  intro w Z hg vals hZ ha
  rw [scalL_args hs ha]
  refine Calls.mono' (hc w hg) ?_
  rintro e w' ⟨rfl, hb⟩
  exact ⟨_, Cx.bare Z w'.heap, rfl, bare_Rel hg hZ hb, hr _⟩

end Go.Proofs.Ytlndfmmigndgeaa.Ev

/- Small words for proofs of functions: tables, loops told by what they turn. -/
namespace Go.Proofs.Ytlndfmmigndgeaa.Ev
open Go
set_option linter.unusedSimpArgs false
set_option linter.unusedVariables false

def nth {α : Type} : List α → Nat → α → α
  | [], _, d => d
  | a :: _, 0, _ => a
  | _ :: r, n + 1, d => nth r n d

def lookN (n : Nat) : List (Nat × List Nat) → List Nat
  | [] => []
  | (k, l) :: r => cond (Nat.beq n k) l (lookN n r)

/-- A slot's value or box put into a state. -/
def Frm.upd : Frm → Nat → Bool → AV → Frm
  | [], _, _, _ => []
  | s :: r, 0, true, v => ⟨s.v, v, s.fv, s.fb⟩ :: r
  | s :: r, 0, false, v => ⟨v, s.b, s.fv, s.fb⟩ :: r
  | s :: r, n + 1, bx, v => s :: Frm.upd r n bx v

def St.upd : St → Nat → Nat → Bool → AV → St
  | [], _, _, _, _ => []
  | f :: r, 0, n, bx, v => Frm.upd f n bx v :: r
  | f :: r, k + 1, n, bx, v => f :: St.upd r k n bx v

structure Up where
  k : Nat
  s : Nat
  bx : Bool
  v : AV

def St.ups (st : St) : List Up → St
  | [] => st
  | u :: r => St.ups (st.upd u.k u.s u.bx u.v) r

/-- Two states laid open side by side. -/
structure SameS (x y : St) : Prop where
  eq : x = y

theorem st_eq {a b : St} (h : a.forceK fun x => b.forceK fun y => SameS x y) : a = b := by
  rw [St.forceK_eq, St.forceK_eq] at h
  exact h.eq

/-- A loop told by what its rounds turn, of the outer frames too. -/
theorem loop_upt {X : Type} (U : X → List Up) (T : X → St) (μ : X → Nat) (I : X → Prop) {E : Env} {C : Orc} {keep : Nat → List Nat} {b : Code} {k : Ex → St → Prop} {s0 : St} (x0 : X) (h0 : s0 = (s0.ups (U x0)).tl (T x0)) (i0 : I x0)
    (h : ∀ x, I x → ((s0.ups (U x)).tl (T x)).forceK fun s => evCode E C keep b s (fun e s' => match e with | .normal => ∃ y, s'.gc (keep (loopKey b)) = (s0.ups (U y)).tl (T y) ∧ I y ∧ μ y < μ x | e => k e s')) :
    LoopP (fun s k' => evCode E C keep b s fun e s' => match e with | .normal => k' .normal (s'.gc (keep (loopKey b))) | e => k' e s') s0 k := by
  refine evLoop_of (fun x => (s0.ups (U x)).tl (T x)) μ I x0 h0 i0 ?_
  intro x hx
  have := h x hx
  rwa [St.forceK_eq] at this

/-- A loop told by what its rounds turn: 'U' the slots' values at the head. -/
theorem loop_ups {X : Type} (U : X → List Up) (μ : X → Nat) (I : X → Prop) {E : Env} {C : Orc} {keep : Nat → List Nat} {b : Code} {k : Ex → St → Prop} {s0 : St} (x0 : X) (h0 : s0 = s0.ups (U x0)) (i0 : I x0)
    (h : ∀ x, I x → (s0.ups (U x)).forceK fun s => evCode E C keep b s (fun e s' => match e with | .normal => ∃ y, s'.gc (keep (loopKey b)) = s0.ups (U y) ∧ I y ∧ μ y < μ x | e => k e s')) :
    LoopP (fun s k' => evCode E C keep b s fun e s' => match e with | .normal => k' .normal (s'.gc (keep (loopKey b))) | e => k' e s') s0 k := by
  refine evLoop_of (fun x => s0.ups (U x)) μ I x0 h0 i0 ?_
  intro x hx
  have := h x hx
  rwa [St.forceK_eq] at this

theorem cond_intro {b : Bool} {p q : Prop} (h1 : b = true → p) (h2 : b = false → q) : cond b p q := by
  cases b
  · exact h2 rfl
  · exact h1 rfl

/-! ### Owned slices at a place of a state that is not known whole -/

/-- The place 'q' of the states 'P l' owns the slice 'l'. -/
structure Owns (q : Pl) (e : Sh) (o : Ow) (P : List e.den → St) : Prop where
  get : ∀ l K, K (.own e o l) → GetP (P l) q K
  look : ∀ l i K, i < l.length → K (unpack e o (l.getD i e.dflt)) → LookP (P l) (q.child (.ix i e.size)) K
  put : ∀ l i u w K, i < l.length → u.pack = some ⟨e, o, w⟩ → u.size = e.size → K (P (l.set i w)) → PutP (P l) (q.child (.ix i e.size)) u K
  bad : ∀ i z, (q.child (.ix i z)).badPlace = false
  pos : ∀ l, 0 < (P l).length
  view : ∀ l K, K (.own e o l) → LookP (P l) q K

theorem Owns.ok {q : Pl} {e : Sh} {o : Ow} {P : List e.den → St} (O : Owns q e o P) {n m i z : Nat} {u : AV} (hu : u.isBad = false) (hz : (u.size == 0) = false) :
    ((((q.lift n).lift m).child (.ix i z)).badPlace || !(((q.lift n).lift m).child (.ix i z)).mem || u.isBad || u.size == 0) = false := by
  have : (((q.lift n).lift m).child (.ix i z)).badPlace = false := O.bad i z
  rw [this, hu, hz]; rfl

theorem cond_f {b : Bool} {p q : Prop} (h : b = false) (hq : q) : cond b p q := by rw [h]; exact hq
theorem cond_t {b : Bool} {p q : Prop} (h : b = true) (hp : p) : cond b p q := by rw [h]; exact hp

theorem PartP_append : ∀ {p p' : List Stp} {a : AV} {K : AV → Prop}, PartP (p ++ p') a K ↔ PartP p a fun b => PartP p' b K := by
  intro p
  induction p with
  | nil => intro p' a K; rfl
  | cons i p ih =>
    intro p' a K
    simp only [List.cons_append, PartP]
    rw [stepP_iff, stepP_iff (K := fun b => PartP p b _)]
    exact exists_congr fun b => and_congr_right fun _ => ih

theorem GetP_child {st : St} {q : Pl} {i : Stp} {K : AV → Prop} : GetP st (q.child i) K ↔ GetP st q fun v => v.stepP i K := by
  simp only [GetP, Pl.child, List.reverse_cons, St.getK_eq]
  cases st.get q.r.k q.r.s with
  | none => exact Iff.rfl
  | some s => simp only [PartP_append]; exact Iff.rfl

/-! ### Small facts -/

abbrev tI : Sh := .int .i64
abbrev tIS : Sh := .sl tI
abbrev tISS : Sh := .sl tIS

theorem fin1 {s : Sh} {o : Ow} {x y : s.den} (h : x = y) : (⟨s, o, x⟩ : Pk) = ⟨s, o, y⟩ := by rw [h]

theorem wrap_in {n : Int} (h1 : -9223372036854775808 ≤ n) (h2 : n ≤ 9223372036854775807) : IntKind.i64.wrap n = n := by
  simp only [IntKind.wrap, IntKind.bits, IntKind.signed]
  have : ((2 : Int) ^ 64) = 18446744073709551616 := by decide
  have h63 : ((2 : Int) ^ (64 - 1)) = 9223372036854775808 := by decide
  simp only [this, h63]
  simp
  split <;> omega

/-- How long a list of data may be. -/
abbrev Short (l : Nat) : Prop := l ≤ 4611686018427387904

theorem wrap_succ {n : Nat} {m : Nat} (h : n < m) (hm : Short m) : IntKind.i64.wrap ((n : Int) + 1) = ((n + 1 : Nat) : Int) := by
  unfold Short at hm
  rw [wrap_in (by omega) (by omega)]; simp

end Go.Proofs.Ytlndfmmigndgeaa.Ev

/- Owned slices at places of states that are not known whole: inner frames, elements. -/
namespace Go.Proofs.Ytlndfmmigndgeaa.Ev
open Go
set_option linter.unusedSimpArgs false
set_option linter.unusedVariables false

/-- The same place, as a called function sees it. -/
theorem Owns.lift {q : Pl} {e : Sh} {o : Ow} {P : List e.den → St} (O : Owns q e o P) (f : Frm) : Owns (q.lift 1) e o (fun l => f :: P l) where
  get := fun l K h => O.get l K h
  look := fun l i K hi h => O.look l i K hi h
  put := fun l i u w K hi hp hs h => O.put l i u w (fun s => K (f :: s)) hi hp hs h
  bad := O.bad
  pos := fun l => by simp
  view := fun l K h => O.view l K h

theorem PartP_det {p : List Stp} {a b : AV} {K : AV → Prop} (h : PartP p a fun u => u = b) (hk : PartP p a K) : K b := by
  obtain ⟨c, h1, h2⟩ := PartP_iff.1 hk
  have key : ∀ {p : List Stp} {a b c : AV}, PartP p a (fun u => u = b) → PartP p a (fun u => u = c) → b = c := by
    intro p
    induction p with
    | nil => intro a b c h g; exact h.symm.trans g
    | cons i p ih =>
      intro a b c h g
      simp only [PartP] at h g
      obtain ⟨x, hx, h⟩ := stepP_iff.1 h
      obtain ⟨y, hy, g⟩ := stepP_iff.1 g
      have sd : ∀ {a : AV} {i : Stp} {x y : AV}, a.stepP i (fun u => u = x) → a.stepP i (fun u => u = y) → x = y := by
        intro a i x y h g
        cases i with
        | l =>
          cases a with
          | pair u v => exact h.symm.trans g
          | d s z => cases s with
            | pair s t => exact h.symm.trans g
            | _ => exact h.elim
          | _ => exact h.elim
        | r n =>
          cases a with
          | pair u v => simp only [AV.stepP] at h g; split at h <;> first | exact h.elim | skip
                        rename_i e; rw [if_pos e] at g; exact h.symm.trans g
          | d s z => cases s with
            | pair s t => simp only [AV.stepP] at h g; split at h <;> first | exact h.elim | skip
                          rename_i e; rw [if_pos e] at g; exact h.symm.trans g
            | _ => exact h.elim
          | _ => exact h.elim
        | ix j z =>
          cases a with
          | own e o l => simp only [AV.stepP] at h g; split at h <;> first | exact h.elim | skip
                         rename_i e; rw [if_pos e] at g; exact h.2.symm.trans g.2
          | hol e o l k b =>
            simp only [AV.stepP] at h g
            split at h
            · rename_i e; rw [if_pos e] at g; exact h.2.symm.trans g.2
            · exact h.elim
          | d s x => cases s <;> exact h.elim
          | _ => exact h.elim
      have := sd hx hy
      subst this
      exact ih h g
  rw [key h h1]; exact h2

/-- An inner part turned, by turns. -/
theorem UpdP_append {u b b' : AV} {p' : List Stp} (hb : UpdP u p' b fun x => x = b') : ∀ {p : List Stp} {a : AV} {K : AV → Prop}, PartP p a (fun x => x = b) → UpdP b' p a K → UpdP u (p ++ p') a K := by
  intro p
  induction p with
  | nil =>
    intro a K h hk
    have h : a = b := h
    subst h
    simp only [UpdP] at hk
    split at hk
    · exact UpdP_iff.2 ⟨b', hb, hk⟩
    · exact hk.elim
  | cons i p ih =>
    intro a K h hk
    simp only [PartP] at h
    cases i with
    | l =>
      cases a with
      | pair x y => exact ih h hk
      | d s x => cases s with
        | pair s t => exact ih h hk
        | _ => exact h.elim
      | _ => exact h.elim
    | r n =>
      cases a with
      | pair x y =>
        simp only [AV.stepP, UpdP, List.cons_append] at h hk ⊢
        split at h
        · rename_i e; rw [if_pos e] at hk ⊢; exact ih h hk
        · exact h.elim
      | d s x => cases s with
        | pair s t =>
          simp only [AV.stepP, UpdP, List.cons_append] at h hk ⊢
          split at h
          · rename_i e; rw [if_pos e] at hk ⊢; exact ih h hk
          · exact h.elim
        | _ => exact h.elim
      | _ => exact h.elim
    | ix j z =>
      cases a with
      | own e o l =>
        simp only [AV.stepP, UpdP, List.cons_append] at h hk ⊢
        split at h
        · rename_i e; rw [if_pos e] at hk ⊢; exact ⟨hk.1, ih h.2 hk.2⟩
        · exact h.elim
      | hol e o l k b0 =>
        simp only [AV.stepP, UpdP, List.cons_append] at h hk ⊢
        split at h
        · rename_i e; rw [if_pos e] at hk ⊢; exact ⟨hk.1, ih h.2 hk.2⟩
        · exact h.elim
      | d s x => cases s <;> exact h.elim
      | _ => exact h.elim

theorem PutP_child {st : St} {q : Pl} {ps : List Stp} {u b b' : AV} {K : St → Prop} (hg : GetP st q fun v => v = b) (hu : UpdP u ps b fun x => x = b') (hp : PutP st q b' K) : PutP st ⟨q.r, ps.reverse ++ q.p⟩ u K := by
  rw [PutP_iff] at hp ⊢
  obtain ⟨s, hs, w, hw, hk⟩ := hp
  rw [GetP_iff] at hg
  obtain ⟨s', hs', v, hv, rfl⟩ := hg
  rw [hs] at hs'
  cases hs'
  refine ⟨s, hs, w, ?_, hk⟩
  simp only [List.reverse_append, List.reverse_reverse]
  exact UpdP_append hu hv hw

/-- What is owned inside an element: 'ps' the steps to it, 'mk' the element with another such part. -/
structure Inside (e : Sh) (o : Ow) (ps : List Stp) (e' : Sh) (o' : Ow) (mk : List e'.den → e.den) : Prop where
  part : ∀ x, PartP ps (unpack e o (mk x)) fun u => u = .own e' o' x
  upd : ∀ x x', UpdP (.own e' o' x') ps (unpack e o (mk x)) fun u => u.pack = some ⟨e, o, mk x'⟩ ∧ u.size = e.size
  size : 0 < e.size

theorem Owns.inside {q : Pl} {e : Sh} {o : Ow} {P : List e.den → St} (O : Owns q e o P) {ps : List Stp} {e' : Sh} {o' : Ow} {mk : List e'.den → e.den} (M : Inside e o ps e' o' mk) {l : List e.den} {i : Nat} (hi : i < l.length) :
    Owns ⟨q.r, ps.reverse ++ .ix i e.size :: q.p⟩ e' o' (fun x => P (l.set i (mk x))) := by
  have hlen : ∀ x, i < (l.set i (mk x)).length := fun x => by simpa using hi
  have hat : ∀ x, (l.set i (mk x)).getD i e.dflt = mk x := fun x => by rw [List.getD_eq_getElem?_getD, List.getElem?_set_self hi]; rfl
  -- the element as it stands
  have hget : ∀ x, GetP (P (l.set i (mk x))) (q.child (.ix i e.size)) fun v => v = unpack e o (mk x) := by
    intro x
    rw [GetP_child]
    refine O.get _ _ ?_
    simp only [AV.stepP, if_true]
    exact ⟨hlen x, by rw [hat]⟩
  have hlook : ∀ x, LookP (P (l.set i (mk x))) (q.child (.ix i e.size)) fun v => v = unpack e o (mk x) := fun x => O.look _ _ _ (hlen x) (by rw [hat])
  have down : ∀ x, ∃ s, (P (l.set i (mk x))).get q.r.k q.r.s = some s ∧ PartP ((ps.reverse ++ .ix i e.size :: q.p).reverse) (s.at q.r.bx) (fun u => u = .own e' o' x) ∧ ((unpack e o (mk x)).hasOwn && !(s.flag q.r.bx)) = false := by
    intro x
    obtain ⟨s, hs, v, hv, h1, h2, rfl⟩ := LookP_iff.1 (hlook x)
    refine ⟨s, hs, ?_, h2⟩
    simp only [List.reverse_append, List.reverse_reverse]
    rw [PartP_append]
    exact PartP_iff.2 ⟨_, hv, M.part x⟩
  have own : ∀ x, (unpack e o (mk x)).hasOwn = true := by
    intro x
    have key : ∀ {p : List Stp} {a : AV}, PartP p a (fun u => u = .own e' o' x) → a.hasOwn = true := by
      intro p
      induction p with
      | nil => intro a h; have h : a = _ := h; subst h; rfl
      | cons j p ih =>
        intro a h
        simp only [PartP] at h
        cases j with
        | l =>
          cases a with
          | pair u v => simp only [AV.hasOwn, ih h, Bool.true_or]
          | d s z => cases s with
            | pair s t =>
              have := ih h
              simp [AV.hasOwn] at this
            | _ => exact h.elim
          | _ => exact h.elim
        | r n =>
          cases a with
          | pair u v =>
            simp only [AV.stepP] at h
            split at h
            · simp only [AV.hasOwn, ih h, Bool.or_true]
            · exact h.elim
          | d s z => cases s with
            | pair s t =>
              simp only [AV.stepP] at h
              split at h
              · have := ih h; simp [AV.hasOwn] at this
              · exact h.elim
            | _ => exact h.elim
          | _ => exact h.elim
        | ix j z =>
          cases a with
          | own e o l => rfl
          | hol e o l k b0 => rfl
          | d s z => cases s <;> exact h.elim
          | _ => exact h.elim
    exact key (M.part x)
  refine ⟨?_, ?_, ?_, ?_, fun _ => O.pos _, fun x K hk => ?_⟩
  rotate_left 4
  · obtain ⟨s, hs, hp, hf⟩ := down x
    have hfl : s.flag q.r.bx = true := by rw [own x] at hf; simpa using hf
    exact LookP_iff.2 ⟨s, hs, .own e' o' x, hp, rfl, by rw [show s.flag q.r.bx = true from hfl]; rfl, hk⟩
  · intro x K hk
    obtain ⟨s, hs, hp, _⟩ := down x
    exact GetP_iff.2 ⟨s, hs, _, hp, hk⟩
  · intro x j K hj hk
    obtain ⟨s, hs, hp, hf⟩ := down x
    have hfl : s.flag q.r.bx = true := by rw [own x] at hf; simpa using hf
    refine LookP_iff.2 ⟨s, hs, unpack e' o' (x.getD j e'.dflt), ?_, unpack_good _ _ _, by rw [show s.flag (Pl.child ⟨q.r, ps.reverse ++ .ix i e.size :: q.p⟩ (.ix j e'.size)).r.bx = true from hfl]; simp, hk⟩
    show PartP ((Pl.child ⟨q.r, ps.reverse ++ .ix i e.size :: q.p⟩ (.ix j e'.size)).p.reverse) _ _
    simp only [Pl.child, List.reverse_cons]
    rw [PartP_append]
    refine PartP_iff.2 ⟨_, hp, ?_⟩
    simp only [PartP, AV.stepP, if_true]
    exact ⟨hj, trivial⟩
  · intro x j u w K hj hp hs hk
    obtain ⟨b', hb', hb1, hb2⟩ := UpdP_iff.1 (M.upd x (x.set j w))
    have h1 : PutP (P (l.set i (mk x))) (q.child (.ix i e.size)) b' K := by
      refine O.put _ _ _ (mk (x.set j w)) _ (hlen x) hb1 hb2 ?_
      rw [List.set_set]; exact hk
    have h2 := PutP_child (ps := ps) (u := .own e' o' (x.set j w)) (hget x) hb' h1
    have h3 : GetP (P (l.set i (mk x))) ⟨(q.child (.ix i e.size)).r, ps.reverse ++ (q.child (.ix i e.size)).p⟩ fun v => v = .own e' o' x := by
      obtain ⟨s, hs, hp, _⟩ := down x
      exact GetP_iff.2 ⟨s, hs, _, hp, rfl⟩
    have h4 : UpdP u [.ix j e'.size] (.own e' o' x) fun y => y = .own e' o' (x.set j w) := by
      simp only [UpdP, if_true]
      refine ⟨hj, ?_⟩
      rw [if_pos (by rw [hs, unpack_size])]
      simp only [putElemP, hp]
      rfl
    exact PutP_child (ps := [.ix j e'.size]) h3 h4 h2
  · intro j z
    have this : (if q.r.bx = true then (Stp.ix i e.size :: q.p).getLast? != some (Stp.r 0) else (Stp.ix i e.size :: q.p).isEmpty) = false := O.bad i e.size
    show (if q.r.bx = true then (Stp.ix j z :: (ps.reverse ++ Stp.ix i e.size :: q.p)).getLast? != some (Stp.r 0) else (Stp.ix j z :: (ps.reverse ++ Stp.ix i e.size :: q.p)).isEmpty) = false
    by_cases hbx : q.r.bx = true
    · rw [if_pos hbx] at this ⊢
      have e1 : (Stp.ix j z :: (ps.reverse ++ Stp.ix i e.size :: q.p)).getLast? = (Stp.ix i e.size :: q.p).getLast? := by
        rw [show Stp.ix j z :: (ps.reverse ++ Stp.ix i e.size :: q.p) = (Stp.ix j z :: ps.reverse) ++ (Stp.ix i e.size :: q.p) from rfl]
        rw [List.getLast?_append]
        simp [List.getLast?_cons]
      rw [e1]; exact this
    · rw [if_neg hbx]; rfl

/-- A part of an element is put. -/
theorem Owns.putIn {q : Pl} {e : Sh} {o : Ow} {P : List e.den → St} (O : Owns q e o P) {ps : List Stp} {l : List e.den} {i : Nat} (hi : i < l.length) {u b' : AV} {w : e.den} (hu : UpdP u ps (unpack e o (l.getD i e.dflt)) fun x => x = b')
    (hp : b'.pack = some ⟨e, o, w⟩) (hs : b'.size = e.size) {K : St → Prop} (hk : K (P (l.set i w))) : PutP (P l) ⟨q.r, ps.reverse ++ .ix i e.size :: q.p⟩ u K := by
  refine PutP_child (q := q.child (.ix i e.size)) ?_ hu (O.put _ _ _ w _ hi hp hs hk)
  rw [GetP_child]
  refine O.get _ _ ?_
  simp only [AV.stepP, if_true]
  exact ⟨hi, trivial⟩

theorem inside_sl (e : Sh) (o : Ow) : Inside (.sl e) (.ow o) [] e o (fun x => x) where
  part := fun x => rfl
  upd := fun x x' => ⟨rfl, rfl⟩
  size := by show 0 < 1; decide


/-! ### The box of a slot of the running frame -/

theorem upd_get {st : St} {s : Nat} {sl : Slot} (hg : st.get 0 s = some sl) (v : AV) : (st.upd 0 s true v).get 0 s = some ⟨sl.v, v, sl.fv, sl.fb⟩ := by
  have key : ∀ {f : Frm} {s : Nat} {sl : Slot}, f[s]? = some sl → (Frm.upd f s true v)[s]? = some ⟨sl.v, v, sl.fv, sl.fb⟩ := by
    intro f
    induction f with
    | nil => intro s sl h; simp at h
    | cons x f ih =>
      intro s sl h
      cases s with
      | zero => simp at h; subst h; rfl
      | succ s => simpa [Frm.upd] using ih (by simpa using h)
  cases st with
  | nil => simp [St.get] at hg
  | cons f o => simpa [St.get, St.upd] using key (by simpa [St.get] using hg)

theorem upd_set {st : St} {s : Nat} {sl : Slot} (hg : st.get 0 s = some sl) (v w : AV) : (st.upd 0 s true v).set 0 s (Slot.put ⟨sl.v, v, sl.fv, sl.fb⟩ true w) = st.upd 0 s true w := by
  have key : ∀ {f : Frm} {s : Nat} {sl : Slot}, f[s]? = some sl → (Frm.upd f s true v).set s (Slot.put ⟨sl.v, v, sl.fv, sl.fb⟩ true w) = Frm.upd f s true w := by
    intro f
    induction f with
    | nil => intro s sl h; simp at h
    | cons x f ih =>
      intro s sl h
      cases s with
      | zero => simp at h; subst h; rfl
      | succ s => simpa [Frm.upd] using ih (by simpa using h)
  cases st with
  | nil => simp [St.get] at hg
  | cons f o =>
    have := key (f := f) (s := s) (by simpa [St.get] using hg)
    show (Frm.upd f s true v :: o).modify 0 _ = _
    simp only [List.modify_zero_cons]
    exact congrArg (· :: o) this

theorem upd_length (st : St) (s : Nat) (v : AV) : (st.upd 0 s true v).length = st.length := by
  cases st <;> rfl

/-- An owned part of the box of a slot. -/
theorem owns_box {st : St} {s : Nat} {sl : Slot} (hg : st.get 0 s = some sl) (hf : sl.fb = true) {e : Sh} {o : Ow} {mk : List e.den → AV} {ps : List Stp} (hl : (ps.reverse.getLast? != some (.r 0)) = false)
    (part : ∀ x, PartP ps (mk x) fun u => u = .own e o x) (upd : ∀ x x', UpdP (.own e o x') ps (mk x) fun u => u = mk x') :
    Owns ⟨⟨0, s, true⟩, ps.reverse⟩ e o (fun x => st.upd 0 s true (mk x)) := by
  refine ⟨?_, ?_, ?_, ?_, ?_, fun x K hk => ?_⟩
  rotate_left 5
  · refine LookP_iff.2 ⟨_, upd_get hg _, .own e o x, ?_, rfl, ?_, hk⟩
    · simp only [List.reverse_reverse, Slot.at, if_true]
      exact part x
    · show (true && !sl.fb) = false
      rw [hf]; rfl
  · intro x K hk
    refine GetP_iff.2 ⟨_, upd_get hg _, _, ?_, hk⟩
    simp only [List.reverse_reverse, Slot.at, if_true]
    exact part x
  · intro x j K hj hk
    refine LookP_iff.2 ⟨_, upd_get hg _, unpack e o (x.getD j e.dflt), ?_, unpack_good _ _ _, ?_, hk⟩
    · simp only [Pl.child, List.reverse_cons, List.reverse_reverse, Slot.at, if_true]
      rw [PartP_append]
      refine PartP_iff.2 ⟨_, part x, ?_⟩
      simp only [PartP, AV.stepP, if_true]
      exact ⟨hj, trivial⟩
    · show (_ && !sl.fb) = false
      rw [hf]; simp
  · intro x j u w K hj hp hs hk
    have h1 : PutP (st.upd 0 s true (mk x)) ⟨⟨0, s, true⟩, ps.reverse⟩ (.own e o (x.set j w)) K := by
      refine PutP_iff.2 ⟨_, upd_get hg _, mk (x.set j w), ?_, ?_⟩
      · simp only [List.reverse_reverse, Slot.at, if_true]; exact upd _ _
      · have := upd_set hg (mk x) (mk (x.set j w))
        rw [this]; exact hk
    have h2 : GetP (st.upd 0 s true (mk x)) ⟨⟨0, s, true⟩, ps.reverse⟩ fun v => v = .own e o x := by
      refine GetP_iff.2 ⟨_, upd_get hg _, _, ?_, rfl⟩
      simp only [List.reverse_reverse, Slot.at, if_true]
      exact part x
    have h3 : UpdP u [.ix j e.size] (.own e o x) fun y => y = .own e o (x.set j w) := by
      simp only [UpdP, if_true]
      refine ⟨hj, ?_⟩
      rw [if_pos (by rw [hs, unpack_size])]
      simp only [putElemP, hp]
      rfl
    exact PutP_child (ps := [.ix j e.size]) h2 h3 h1
  · intro j z
    show ((Stp.ix j z :: ps.reverse).getLast? != some (.r 0)) = false
    cases h : ps.reverse with
    | nil => rw [h] at hl; simp at hl
    | cons a r => rw [h] at hl; rw [List.getLast?_cons_cons]; exact hl
  · intro x
    rw [upd_length]
    exact Nat.pos_of_ne_zero fun e => by
      have := St.get_lt hg
      omega


theorem upd_self {st : St} {s : Nat} {sl : Slot} (hg : st.get 0 s = some sl) : st.upd 0 s true sl.b = st := by
  have key : ∀ {f : Frm} {s : Nat} {sl : Slot}, f[s]? = some sl → Frm.upd f s true sl.b = f := by
    intro f
    induction f with
    | nil => intro s sl h; simp at h
    | cons x f ih =>
      intro s sl h
      cases s with
      | zero => simp at h; subst h; rfl
      | succ s =>
        have := ih (s := s) (by simpa using h)
        simp only [Frm.upd, this]
  cases st with
  | nil => simp [St.get] at hg
  | cons f o =>
    have := key (f := f) (s := s) (by simpa [St.get] using hg)
    simp only [St.upd, this]


/-! ### A slot's own value -/

theorem updV_get {st : St} {s : Nat} {sl : Slot} (hg : st.get 0 s = some sl) (v : AV) : (st.upd 0 s false v).get 0 s = some ⟨v, sl.b, sl.fv, sl.fb⟩ := by
  have key : ∀ {f : Frm} {s : Nat} {sl : Slot}, f[s]? = some sl → (Frm.upd f s false v)[s]? = some ⟨v, sl.b, sl.fv, sl.fb⟩ := by
    intro f
    induction f with
    | nil => intro s sl h; simp at h
    | cons x f ih =>
      intro s sl h
      cases s with
      | zero => simp at h; subst h; rfl
      | succ s => simpa [Frm.upd] using ih (by simpa using h)
  cases st with
  | nil => simp [St.get] at hg
  | cons f o => simpa [St.get, St.upd] using key (by simpa [St.get] using hg)

theorem updV_set {st : St} {s : Nat} {sl : Slot} (hg : st.get 0 s = some sl) (v w : AV) : (st.upd 0 s false v).set 0 s (Slot.put ⟨v, sl.b, sl.fv, sl.fb⟩ false w) = st.upd 0 s false w := by
  have key : ∀ {f : Frm} {s : Nat} {sl : Slot}, f[s]? = some sl → (Frm.upd f s false v).set s (Slot.put ⟨v, sl.b, sl.fv, sl.fb⟩ false w) = Frm.upd f s false w := by
    intro f
    induction f with
    | nil => intro s sl h; simp at h
    | cons x f ih =>
      intro s sl h
      cases s with
      | zero => simp at h; subst h; rfl
      | succ s => simpa [Frm.upd] using ih (by simpa using h)
  cases st with
  | nil => simp [St.get] at hg
  | cons f o =>
    have := key (f := f) (s := s) (by simpa [St.get] using hg)
    show (Frm.upd f s false v :: o).modify 0 _ = _
    simp only [List.modify_zero_cons]
    exact congrArg (· :: o) this

theorem updV_self {st : St} {s : Nat} {sl : Slot} (hg : st.get 0 s = some sl) : st.upd 0 s false sl.v = st := by
  have key : ∀ {f : Frm} {s : Nat} {sl : Slot}, f[s]? = some sl → Frm.upd f s false sl.v = f := by
    intro f
    induction f with
    | nil => intro s sl h; simp at h
    | cons x f ih =>
      intro s sl h
      cases s with
      | zero => simp at h; subst h; rfl
      | succ s =>
        have := ih (s := s) (by simpa using h)
        simp only [Frm.upd, this]
  cases st with
  | nil => simp [St.get] at hg
  | cons f o =>
    have := key (f := f) (s := s) (by simpa [St.get] using hg)
    simp only [St.upd, this]

/-- The slice that a slot's own value is. -/
theorem owns_var {st : St} {s : Nat} {sl : Slot} (hg : st.get 0 s = some sl) (hf : sl.fv = true) (e : Sh) (o : Ow) :
    Owns ⟨⟨0, s, false⟩, []⟩ e o (fun x => st.upd 0 s false (.own e o x)) := by
  refine ⟨?_, ?_, ?_, ?_, ?_, fun x K hk => ?_⟩
  rotate_left 5
  · refine LookP_iff.2 ⟨_, updV_get hg _, .own e o x, rfl, rfl, ?_, hk⟩
    show (true && !sl.fv) = false
    rw [hf]; rfl
  · intro x K hk
    exact GetP_iff.2 ⟨_, updV_get hg _, _, rfl, hk⟩
  · intro x j K hj hk
    refine LookP_iff.2 ⟨_, updV_get hg _, unpack e o (x.getD j e.dflt), ?_, unpack_good _ _ _, ?_, hk⟩
    · show PartP [.ix j e.size] (.own e o x) _
      simp only [PartP, AV.stepP, if_true]
      exact ⟨hj, trivial⟩
    · show (_ && !sl.fv) = false
      rw [hf]; simp
  · intro x j u w K hj hp hs hk
    refine PutP_iff.2 ⟨_, updV_get hg _, .own e o (x.set j w), ?_, ?_⟩
    · show UpdP u [.ix j e.size] (.own e o x) _
      simp only [UpdP, if_true]
      refine ⟨hj, ?_⟩
      rw [if_pos (by rw [hs, unpack_size])]
      simp only [putElemP, hp]
      rfl
    · have := updV_set hg (.own e o x) (.own e o (x.set j w))
      rw [show (Pl.child ⟨⟨0, s, false⟩, []⟩ (.ix j e.size)).r.bx = false from rfl]
      show K ((st.upd 0 s false (.own e o x)).set 0 s _)
      rw [this]; exact hk
  · intro j z; rfl
  · intro x
    have := St.get_lt hg
    cases st with
    | nil => simp at this
    | cons f r => simp [St.upd]

end Go.Proofs.Ytlndfmmigndgeaa.Ev

/- What is told of a run's end can be told ahead of it: some value and state that it ends with. -/
namespace Go.Proofs.Ytlndfmmigndgeaa.Ev
open Go
set_option linter.unusedSimpArgs false
set_option linter.unusedVariables false

theorem wp_run {α : Type} {C : Orc} (m : M α) : ∀ {st : St} {k : α → St → Prop}, m.wp C st k → ∃ a s, k a s ∧ m.wp C st fun a' s' => a' = a ∧ s' = s := by
  induction m with
  | pure a => intro st k h; exact ⟨a, st, h, rfl, rfl⟩
  | rd n s g ih =>
    intro st k h
    rw [M.wp_rd] at h
    obtain ⟨v, h1, h2⟩ := h
    obtain ⟨a, s', h3, h4⟩ := ih v h2
    exact ⟨a, s', h3, (M.wp_rd ..).2 ⟨v, h1, h4⟩⟩
  | wr n s v m ih =>
    intro st k h
    rw [M.wp_wr] at h
    obtain ⟨h1, h2⟩ := h
    obtain ⟨a, s', h3, h4⟩ := ih h2
    exact ⟨a, s', h3, (M.wp_wr ..).2 ⟨h1, h4⟩⟩
  | get q g ih =>
    intro st k h
    simp only [M.wp, AV.force_eq, GetP_iff] at h
    obtain ⟨s, h1, v, h2, h3⟩ := h
    obtain ⟨a, s', h4, h5⟩ := ih v h3
    refine ⟨a, s', h4, ?_⟩
    simp only [M.wp, AV.force_eq, GetP_iff]
    exact ⟨s, h1, v, h2, h5⟩
  | look q g ih =>
    intro st k h
    simp only [M.wp, AV.force_eq, LookP_iff] at h
    obtain ⟨s, h1, v, h2, g1, g2, h3⟩ := h
    obtain ⟨a, s', h4, h5⟩ := ih v h3
    refine ⟨a, s', h4, ?_⟩
    simp only [M.wp, AV.force_eq, LookP_iff]
    exact ⟨s, h1, v, h2, g1, g2, h5⟩
  | hd s g ih =>
    intro st k h
    rw [M.wp_hd] at h
    obtain ⟨v, h1, h2⟩ := h
    obtain ⟨a, s', h3, h4⟩ := ih _ h2
    exact ⟨a, s', h3, (M.wp_hd ..).2 ⟨v, h1, h4⟩⟩
  | put q u m ih =>
    intro st k h
    simp only [M.wp, PutP_iff] at h
    obtain ⟨s, h1, v, h2, h3⟩ := h
    obtain ⟨a, s', h4, h5⟩ := ih h3
    refine ⟨a, s', h4, ?_⟩
    simp only [M.wp, PutP_iff]
    exact ⟨s, h1, v, h2, h5⟩
  | scr s b p m ih => intro st k h; exact ih (st := st.scrub s b p) h
  | ext t i g ih =>
    intro st k h
    simp only [M.wp, ExtP_iff] at h
    obtain ⟨s, h1, a, h2, v, h3, h4⟩ := h
    obtain ⟨a', s', h5, h6⟩ := ih v h4
    refine ⟨a', s', h5, ?_⟩
    simp only [M.wp, ExtP_iff]
    exact ⟨s, h1, a, h2, v, h3, h6⟩
  | grd c m ih => intro st k h; obtain ⟨a, s', h3, h4⟩ := ih h.2; exact ⟨a, s', h3, h.1, h4⟩
  | br b x y ihx ihy =>
    intro st k h
    simp only [M.wp] at h ⊢
    cases b <;> simp only [cond_true, cond_false] at h ⊢
    · exact ihy h
    · exact ihx h
  | call n as z g ih => intro st k h; obtain ⟨r, h1, h2, h3⟩ := h; obtain ⟨a, s', h4, h5⟩ := ih r h3; exact ⟨a, s', h4, r, h1, h2, h5⟩
  | inl n as g ih =>
    intro st k h
    simp only [M.wp, St.forceK_eq, AV.force_eq] at h
    obtain ⟨r, s1, h1, h3⟩ := h
    obtain ⟨a, s', h4, h5⟩ := ih r h3
    refine ⟨a, s', h4, ?_⟩
    simp only [M.wp, St.forceK_eq, AV.force_eq]
    exact ⟨r, s1, h1, h5⟩
  | fail => intro st k h; exact h.elim

theorem evGhosts_run (C : Orc) : ∀ (l : List Nat) {st : St} {k : St → Prop}, evGhosts C l st k → ∃ s, k s ∧ evGhosts C l st fun s' => s' = s := by
  intro l
  induction l with
  | nil => intro st k h; exact ⟨st, h, rfl⟩
  | cons n r ih =>
    intro st k h
    have one : ∀ (m : M Unit), (m.wp C st fun _ st' => evGhosts C r st' k) → ∃ s, k s ∧ m.wp C st fun _ st' => evGhosts C r st' fun s' => s' = s := by
      intro m hm
      obtain ⟨_, s1, h1, h2⟩ := wp_run m hm
      obtain ⟨s, h3, h4⟩ := ih h1
      exact ⟨s, h3, M.wp_mono m (fun _ st e => by rw [e.2]; exact h4) _ h2⟩
    simp only [evGhosts] at h ⊢
    cases e1 : Nat.ble n 999 <;> cases e2 : Nat.ble n 1999 <;> simp only [e1, e2, cond_true, cond_false] at h ⊢ <;> exact one _ h

theorem wpL_end {α : Type} {C : Orc} {m : M α} {st : St} {l0 : Lg} {k : α → St → Lg → Prop} (h : m.wpL C st l0 k) : ∃ a s l, k a s l ∧ m.wpL C st l0 fun a' s' l' => a' = a ∧ s' = s ∧ l' = l := by
  obtain ⟨a, s, l, h1, h2⟩ := wpL_run m h
  exact ⟨a, s, l, h2, h1⟩

theorem evDraw_run {E : Env} {C : Orc} {ops : List Oper} {ms : List Nat} : ∀ (r : List Oper) {i : Nat} {ls : List (Nat × Lg)} {st : St} {k : St → Prop}, evDraw E C ops ms i ls r st k → ∃ s, k s ∧ evDraw E C ops ms i ls r st fun s' => s' = s := by
  intro r
  induction r with
  | nil => intro i ls st k h; exact ⟨st, h, rfl⟩
  | cons o r ih =>
    intro i ls st k h
    obtain ⟨_, s1, l1, h1, h2⟩ := wpL_end h
    cases hf : fits (ms.getD i 0) l1 ls with
    | false => rw [hf] at h1; exact h1.elim
    | true =>
      rw [hf] at h1
      obtain ⟨s, h3, h4⟩ := ih h1
      refine ⟨s, h3, M.wpL_mono _ ?_ _ _ h2⟩
      rintro _ _ _ ⟨_, rfl, rfl⟩
      rw [hf]; exact h4

theorem evCode_run {E : Env} {C : Orc} {keep : Nat → List Nat} (c : Code) : ∀ {st : St} {k : Ex → St → Prop}, evCode E C keep c st k → ∃ e s, k e s ∧ evCode E C keep c st fun e' s' => e' = e ∧ s' = s := by
  induction c with
  | skip => intro st k h; exact ⟨.normal, st, h, rfl, rfl⟩
  | region id ops dr =>
    intro st k h
    cases dr
    · obtain ⟨_, s1, h1, h2⟩ := wp_run _ h
      obtain ⟨s, h3, h4⟩ := evGhosts_run C _ h1
      refine ⟨.normal, s, h3, M.wp_mono _ (fun _ st e => ?_) _ h2⟩
      rw [e.2]
      exact evGhosts_mono C _ _ _ _ (fun s' e => ⟨rfl, e⟩) h4
    · simp only [evCode] at h ⊢
      cases hd : drawOk ops.toList (mkMasks ops.toList []) with
      | false => rw [hd] at h; exact h.elim
      | true =>
        rw [hd] at h
        obtain ⟨s1, h1, h2⟩ := evDraw_run _ h
        obtain ⟨s, h3, h4⟩ := evGhosts_run C _ h1
        refine ⟨.normal, s, h3, evDraw_mono _ _ _ _ _ _ (fun s' e => ?_) h2⟩
        rw [e]
        exact evGhosts_mono C _ _ _ _ (fun s' e => ⟨rfl, e⟩) h4
  | seq a b iha ihb =>
    intro st k h
    obtain ⟨e1, s1, h1, h2⟩ := iha h
    cases e1 with
    | normal =>
      have h1 : s1.forceK fun s => evCode E C keep b s k := h1
      rw [St.forceK_eq] at h1
      obtain ⟨e, s, h3, h4⟩ := ihb h1
      refine ⟨e, s, h3, evCode_mono E _ keep a _ _ _ ?_ h2⟩
      rintro _ _ ⟨rfl, rfl⟩
      show St.forceK _ fun s => evCode E C keep b s _
      rw [St.forceK_eq]
      exact h4
    | exit j =>
      refine ⟨.exit j, s1, h1, evCode_mono E _ keep a _ _ _ ?_ h2⟩
      rintro _ _ ⟨rfl, rfl⟩
      exact ⟨rfl, rfl⟩
    | ret =>
      refine ⟨.ret, s1, h1, evCode_mono E _ keep a _ _ _ ?_ h2⟩
      rintro _ _ ⟨rfl, rfl⟩
      exact ⟨rfl, rfl⟩
  | cond c x y ihx ihy =>
    intro st k h
    obtain ⟨v, s1, h1, h2⟩ := wp_run _ h
    split at h1
    · rename_i b
      cases b with
      | true =>
        obtain ⟨e, s, h3, h4⟩ := ihx h1
        refine ⟨e, s, h3, M.wp_mono _ ?_ _ h2⟩
        rintro _ _ ⟨rfl, rfl⟩
        exact h4
      | false =>
        obtain ⟨e, s, h3, h4⟩ := ihy h1
        refine ⟨e, s, h3, M.wp_mono _ ?_ _ h2⟩
        rintro _ _ ⟨rfl, rfl⟩
        exact h4
    · exact h1.elim
  | block id b ih =>
    intro st k h
    obtain ⟨e1, s1, h1, h2⟩ := ih h
    cases e1 with
    | normal =>
      refine ⟨.normal, s1, h1, evCode_mono E _ keep b _ _ _ ?_ h2⟩
      rintro _ _ ⟨rfl, rfl⟩
      exact ⟨rfl, rfl⟩
    | exit j =>
      simp only at h1
      by_cases hj : j = id
      · rw [if_pos hj] at h1
        refine ⟨.normal, s1, h1, evCode_mono E _ keep b _ _ _ ?_ h2⟩
        rintro _ _ ⟨rfl, rfl⟩
        simp only [if_pos hj]
        exact ⟨trivial, trivial⟩
      · rw [if_neg hj] at h1
        refine ⟨.exit j, s1, h1, evCode_mono E _ keep b _ _ _ ?_ h2⟩
        rintro _ _ ⟨rfl, rfl⟩
        simp only [if_neg hj]
        exact ⟨trivial, trivial⟩
    | ret =>
      refine ⟨.ret, s1, h1, evCode_mono E _ keep b _ _ _ ?_ h2⟩
      rintro _ _ ⟨rfl, rfl⟩
      exact ⟨rfl, rfl⟩
  | loop b ih =>
    intro st k h
    refine h.all (fun s => ∃ e s', k e s' ∧ LoopP _ s fun e' s2 => e' = e ∧ s2 = s') fun s hs => ?_
    obtain ⟨e1, s1, h1, h2⟩ := ih hs
    cases e1 with
    | normal =>
      obtain ⟨e, s', h3, h4⟩ := h1
      refine ⟨e, s', h3, ⟨fun J hJ => hJ s (evCode_mono E _ keep b _ _ _ ?_ h2)⟩⟩
      rintro _ _ ⟨rfl, rfl⟩
      exact h4.all J hJ
    | exit j =>
      refine ⟨.exit j, s1, h1, ⟨fun J hJ => hJ s (evCode_mono E _ keep b _ _ _ ?_ h2)⟩⟩
      rintro _ _ ⟨rfl, rfl⟩
      exact ⟨rfl, rfl⟩
    | ret =>
      refine ⟨.ret, s1, h1, ⟨fun J hJ => hJ s (evCode_mono E _ keep b _ _ _ ?_ h2)⟩⟩
      rintro _ _ ⟨rfl, rfl⟩
      exact ⟨rfl, rfl⟩
  | exit id => intro st k h; exact ⟨.exit id, st, h, rfl, rfl⟩
  | ret => intro st k h; exact ⟨.ret, st, h, rfl, rfl⟩
  | rangeFunc => intro st k h; exact h.elim
  | scope => intro st k h; exact h.elim
  | label => intro st k h; exact h.elim
  | goto => intro st k h; exact h.elim
  | refuse => intro st k h; exact h.elim

theorem evInl_run {E : Env} {C : Orc} {keep : Nat → List Nat} {ss : List Sh} {rs : List ResultVar} {n : Nat} {body : Code} {args : List AV} {o : St} {k : AV → St → Prop} (h : evInl E C keep ss rs n body args o k) :
    ∃ r s, k r s ∧ evInl E C keep ss rs n body args o fun r' s' => r' = r ∧ s' = s := by
  obtain ⟨e, s1, h1, h2⟩ := evCode_run body h
  have fin : ((retM E ss rs).wp C s1 fun v st' => ∃ r, v.lower = some r ∧ k r st'.tail) → ∃ r s, k r s ∧ ((retM E ss rs).wp C s1 fun v st' => ∃ r', v.lower = some r' ∧ (r' = r ∧ st'.tail = s)) := by
    intro h
    obtain ⟨v, s2, ⟨r, h3, h4⟩, h5⟩ := wp_run _ h
    refine ⟨r, s2.tail, h4, M.wp_mono _ ?_ _ h5⟩
    rintro _ _ ⟨rfl, rfl⟩
    exact ⟨r, h3, rfl, rfl⟩
  cases e with
  | exit j => exact h1.elim
  | normal =>
    obtain ⟨r, s, h3, h4⟩ := fin h1
    refine ⟨r, s, h3, evCode_mono E _ keep body _ _ _ ?_ h2⟩
    rintro _ _ ⟨rfl, rfl⟩
    exact h4
  | ret =>
    obtain ⟨r, s, h3, h4⟩ := fin h1
    refine ⟨r, s, h3, evCode_mono E _ keep body _ _ _ ?_ h2⟩
    rintro _ _ ⟨rfl, rfl⟩
    exact h4

theorem evFun_run {E : Env} {C : Orc} {keep : Nat → List Nat} {ss : List Sh} {rs : List ResultVar} {n : Nat} {body : Code} {args : List AV} {o : St} {k : Pk → St → Prop} (h : evFun E C keep ss rs n body args o k) :
    ∃ r, (∃ s, k r s) ∧ evFun E C keep ss rs n body args o fun r' _ => r' = r := by
  simp only [evFun, normsK_eq] at h ⊢
  obtain ⟨e, s1, h1, h2⟩ := evCode_run body h
  have fin : ((retM E ss rs).wp C s1 fun v st' => ∃ w r, v.pack = some w ∧ w.as (rs.length == 1) r ∧ k r st'.tail) → ∃ r, (∃ s, k r s) ∧ ((retM E ss rs).wp C s1 fun v st' => ∃ w r', v.pack = some w ∧ w.as (rs.length == 1) r' ∧ r' = r) := by
    intro h
    obtain ⟨v, s2, ⟨w, r, h3, h4, h6⟩, h5⟩ := wp_run _ h
    refine ⟨r, ⟨_, h6⟩, M.wp_mono _ ?_ _ h5⟩
    rintro _ _ ⟨rfl, rfl⟩
    exact ⟨w, r, h3, h4, rfl⟩
  cases e with
  | exit j => exact h1.elim
  | normal =>
    obtain ⟨r, h3, h4⟩ := fin h1
    refine ⟨r, h3, evCode_mono E _ keep body _ _ _ ?_ h2⟩
    rintro _ _ ⟨rfl, rfl⟩
    exact h4
  | ret =>
    obtain ⟨r, h3, h4⟩ := fin h1
    refine ⟨r, h3, evCode_mono E _ keep body _ _ _ ?_ h2⟩
    rintro _ _ ⟨rfl, rfl⟩
    exact h4

theorem ex_inl {E : Env} {C : Orc} {keep : Nat → List Nat} {ss : List Sh} {rs : List ResultVar} {n : Nat} {body : Code} {args : List AV} {o : St} {k : AV → St → Prop} {X : AV → St → Prop}
    (p : ∀ r s, (evInl E C keep ss rs n body args o fun r' s' => r' = r ∧ s' = s) → X r s) (h : evInl E C keep ss rs n body args o k) : ∃ r s, k r s ∧ X r s := by
  obtain ⟨r, s, h1, h2⟩ := evInl_run h
  exact ⟨r, s, h1, p r s h2⟩
theorem ex_fun {E : Env} {C : Orc} {keep : Nat → List Nat} {ss : List Sh} {rs : List ResultVar} {n : Nat} {body : Code} {args : List AV} {o : St} {k : Pk → Prop} {X : Pk → Prop}
    (p : ∀ r, (evFun E C keep ss rs n body args o fun r' _ => r' = r) → X r) (h : evFun E C keep ss rs n body args o fun r _ => k r) : ∃ r, k r ∧ X r := by
  obtain ⟨r, ⟨_, h1⟩, h2⟩ := evFun_run h
  exact ⟨r, h1, p r h2⟩

end Go.Proofs.Ytlndfmmigndgeaa.Ev
