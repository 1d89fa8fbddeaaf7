/- Draws: the cursor that is handed from call to call. -/
import Derived.Test.YtlndfmmigndgeaaFnA
namespace Go.Proofs.Ytlndfmmigndgeaa.Ev
open Go
set_option linter.unusedVariables false
set_option linter.unusedSimpArgs false
set_option maxRecDepth 100000
set_option exponentiation.threshold 100000

abbrev tB : Sh := .sl (.int .u8)
abbrev t64 : Sh := .int .u64
abbrev shCur : Sh := .pair tB (.pair tI (.pair t64 .unit))
/-! Conditions that compare a thing with itself. -/
theorem sc1 (x : Int) : (x != x) = false := by simp
theorem sc2 (x : Int) : ((x != x) == false) = true := by simp
theorem sc3 {α : Type} [DecidableEq α] (x : α) : (!decide (x = x)) = false := by simp
theorem sc4 {α : Type} [DecidableEq α] (x : α) : ((!decide (x = x)) == false) = true := by simp
theorem sc5 (x : Bool) : (!(x == x)) = false := by simp
theorem sc6 (x : Bool) : ((!(x == x)) == false) = true := by simp
/-- The place of a cursor. -/
abbrev plCur (k t : Nat) : Pl := ⟨⟨k, t, true⟩, [.r 0]⟩

/-- The states 'P b' have a box at the place, with 'b' in it. -/
structure Cur (k t : Nat) (P : AV → St) : Prop where
  is : ∀ b, BoxIs (P b) k t b
  box : ∀ b u, (P b).box k t u = P u

theorem get_box {st : St} {k t : Nat} {u : AV} (k' t' : Nat) : (st.box k t u).get k' t' = if k' = k ∧ t' = t then (st.get k t).map (fun sl => { sl with b := u }) else st.get k' t' := get_mod st k t _ k' t'
theorem box_set {st : St} {k t : Nat} {sl : Slot} (h : st.get k t = some sl) (w : AV) : st.set k t (sl.put true w) = st.box k t w := mod_of_get (f := fun sl : Slot => { sl with b := w }) h
theorem box_of {st : St} {k t : Nat} {b : AV} (h : BoxIs st k t b) : st.box k t b = st := by
  obtain ⟨sl, h1, rfl, _⟩ := h
  rw [← box_set h1]
  have e : sl.put true sl.b = sl := rfl
  rw [e, St.set_mod]
  refine List.ext_getElem? fun i => ?_
  unfold St.mod
  rw [List.getElem?_modify]
  by_cases hi : k = i
  · subst hi
    simp only [St.get] at h1
    cases hf : st[k]? with
    | none => rfl
    | some f =>
      rw [hf] at h1
      simp only [if_true]
      refine congrArg some ?_
      refine List.ext_getElem? fun j => ?_
      rw [List.getElem?_modify]
      by_cases hj : t = j
      · subst hj
        have h1 : f[t]? = some sl := h1
        rw [h1]; simp
      · simp [hj]
  · simp [hi]
theorem box_box (st : St) (k t : Nat) (b u : AV) : (st.box k t b).box k t u = st.box k t u := by
  unfold St.box
  refine List.ext_getElem? fun i => ?_
  simp only [List.getElem?_modify]
  by_cases hi : k = i
  · subst hi
    cases st[k]? with
    | none => rfl
    | some f =>
      simp only [if_true]
      refine congrArg some ?_
      refine List.ext_getElem? fun j => ?_
      simp only [List.getElem?_modify]
      by_cases hj : t = j
      · subst hj; cases f[t]? <;> simp
      · simp [hj]
  · simp [hi]
theorem boxIs_box {st : St} {k t : Nat} {b : AV} (h : BoxIs st k t b) (u : AV) : BoxIs (st.box k t u) k t u := by
  obtain ⟨sl, h1, _, h3⟩ := h
  exact ⟨{ sl with b := u }, by rw [get_box, if_pos ⟨rfl, rfl⟩, h1]; rfl, rfl, h3⟩
theorem cur_box {st : St} {k t : Nat} {b : AV} (h : BoxIs st k t b) : Cur k t (fun b => st.box k t b) := ⟨fun u => boxIs_box h u, fun b u => box_box st k t b u⟩

section
variable {k t : Nat} {P : AV → St}
theorem Cur.lift (C : Cur k t P) (f : Frm) : Cur (k + 1) t (fun b => f :: P b) where
  is := fun b => by obtain ⟨sl, h⟩ := C.is b; exact ⟨sl, h⟩
  box := fun b u => by
    show (f :: P b).modify (k + 1) _ = _
    rw [List.modify_succ_cons]
    exact congrArg (f :: ·) (C.box b u)
theorem Cur.pos (C : Cur k t P) (b : AV) : 0 < (P b).length := by
  obtain ⟨sl, h, _⟩ := C.is b
  have := St.get_lt h; omega
theorem Cur.get (C : Cur k t P) (b : AV) (p : List Stp) (K : AV → Prop) (h : PartP p.reverse b K) : GetP (P b) ⟨⟨k, t, true⟩, p⟩ K := by
  obtain ⟨sl, h1, rfl, _⟩ := C.is b
  obtain ⟨v, h2, h3⟩ := PartP_iff.1 h
  exact GetP_iff.2 ⟨sl, h1, v, h2, h3⟩
theorem Cur.look (C : Cur k t P) (b : AV) (p : List Stp) (K : AV → Prop) (h : PartP p.reverse b (fun v => v.isBad = false ∧ v.hasOwn = false ∧ K v)) : LookP (P b) ⟨⟨k, t, true⟩, p⟩ K := by
  obtain ⟨sl, h1, rfl, _⟩ := C.is b
  obtain ⟨v, h2, h3, h4, h5⟩ := PartP_iff.1 h
  exact LookP_iff.2 ⟨sl, h1, v, h2, h3, by rw [h4]; rfl, h5⟩
theorem Cur.put (C : Cur k t P) (b : AV) (p : List Stp) (u b' : AV) (K : St → Prop) (h : UpdP u p.reverse b (fun w => w = b')) (hk : K (P b')) : PutP (P b) ⟨⟨k, t, true⟩, p⟩ u K := by
  obtain ⟨sl, h1, h2, _⟩ := C.is b
  refine PutP_iff.2 ⟨sl, h1, b', by rw [← h2] at h; exact h, ?_⟩
  rw [show (P b).set (⟨⟨k, t, true⟩, p⟩ : Pl).r.k (⟨⟨k, t, true⟩, p⟩ : Pl).r.s (sl.put true b') = (P b).box k t b' from box_set h1 b', C.box]
  exact hk
theorem Cur.tel (C : Cur k t P) (b : AV) (p : List Stp) (K : AV → Prop) (h : PartP p b K) : GetT (P b) ⟨k, t, true, p⟩ K := by
  obtain ⟨sl, h1, rfl, _⟩ := C.is b
  obtain ⟨v, h2, h3⟩ := PartP_iff.1 h
  exact GetT_iff.2 ⟨sl, h1, v, h2, h3⟩
end

/-- What a call with a cursor does, in every state. -/
def CC (n k t : Nat) (xs : List AV) (b u r : AV) : Prop := ∀ P, Cur k t P → orc.ic n (.ptr (plCur k t) :: xs) (P b) r (P u)

theorem CC.at {n k t : Nat} {xs : List AV} {b u r : AV} {st : St} (h : CC n k t xs b u r) (hb : BoxIs st k t b) : orc.ic n (.ptr (plCur k t) :: xs) st r (st.box k t u) := by
  have h1 : orc.ic n _ (st.box k t b) r (st.box k t u) := h _ (cur_box hb)
  rw [box_of hb] at h1
  exact h1

/-- In a drawn region. -/
theorem CC.drawn {n k t : Nat} {xs : List AV} {b u r : AV} {P : AV → St} (h : CC n k t xs b u r) (hr : b.regA 0 = 0 ∧ u.regA 0 = 0 ∧ u.size = b.size) (C : Cur k t P) (l : Lg) :
    (orc.ic n (.ptr (plCur k t) :: xs) (P b) r (P u) ∧ l.wroteP ⟨k, t, true, []⟩ 0 = l.more) ∨
    ∃ rs n' t' b' u', InlF orc n (.ptr (plCur k t) :: xs) rs (P b) n' t' b' u' r ∧ BoxIs (P b) n' t' b' ∧ P u = (P b).box n' t' u' ∧ l.wroteP ⟨k, t, true, []⟩ 0 = (l.sawL rs).wroteP ⟨n', t', true, []⟩ 0 := by
  refine .inr ⟨[], k, t, b, u, ⟨hr, fun st2 hb _ => ?_⟩, C.is b, (C.box b u).symm, rfl⟩
  have h1 := h _ (cur_box hb)
  have h1 : orc.ic n _ (st2.box k t b) r (st2.box k t u) := h1
  rw [box_of hb] at h1
  exact h1

/-- A call with a cursor and a list that lies in a slot. -/
def CL (n k t : Nat) (q : Pl) (l : List Int) (b u r : AV) : Prop := ∀ P, Cur k t P → (∀ b, GetP (P b) q (fun v => v = .own tI .fz l)) → orc.ic n [.ptr (plCur k t), .vw q tI] (P b) r (P u)
theorem CL.at {n k t : Nat} {q : Pl} {l : List Int} {b u r : AV} {st : St} (h : CL n k t q l b u r) (hb : BoxIs st k t b) (hg : ∀ b, GetP (st.box k t b) q (fun v => v = .own tI .fz l)) : orc.ic n [.ptr (plCur k t), .vw q tI] st r (st.box k t u) := by
  have h1 : orc.ic n _ (st.box k t b) r (st.box k t u) := h _ (cur_box hb) hg
  rw [box_of hb] at h1
  exact h1
theorem CL.drawn {n k t m : Nat} {l : List Int} {b u r : AV} {P : AV → St} (h : CL n k t ⟨⟨0, m, false⟩, []⟩ l b u r) (hr : b.regA 0 = 0 ∧ u.regA 0 = 0 ∧ u.size = b.size) (C : Cur k t P)
    (hl : ∀ b, GetP (P b) ⟨⟨0, m, false⟩, []⟩ (fun v => v = .own tI .fz l)) (lg : Lg) :
    (orc.ic n [.ptr (plCur k t), .vw ⟨⟨0, m, false⟩, []⟩ tI] (P b) r (P u) ∧ (lg.saw 0 m).wroteP ⟨k, t, true, []⟩ 0 = lg.more) ∨
    ∃ rs n' t' b' u', InlF orc n [.ptr (plCur k t), .vw ⟨⟨0, m, false⟩, []⟩ tI] rs (P b) n' t' b' u' r ∧ BoxIs (P b) n' t' b' ∧ P u = (P b).box n' t' u' ∧ (lg.saw 0 m).wroteP ⟨k, t, true, []⟩ 0 = (lg.sawL rs).wroteP ⟨n', t', true, []⟩ 0 := by
  refine .inr ⟨[m], k, t, b, u, ⟨hr, fun st2 hb hs => ?_⟩, C.is b, (C.box b u).symm, rfl⟩
  have h1 := h _ (cur_box hb) (fun b' => by
    obtain ⟨s, hs1, v, hv, e⟩ := GetP_iff.1 (hl b)
    have hs2 := hs m (List.mem_singleton.2 rfl)
    rw [hs1] at hs2
    refine GetP_iff.2 ?_
    have hg : ∃ s', (st2.box k t b').get 0 m = some s' ∧ s'.v = s.v := by
      rw [get_box]
      split
      · rename_i e; rw [← e.1, ← e.2, hs2]; exact ⟨_, rfl, rfl⟩
      · exact ⟨s, hs2, rfl⟩
    obtain ⟨s', g1, g2⟩ := hg
    refine ⟨s', g1, v, ?_, e⟩
    have hv : s.v = v := hv
    show s'.v = v
    rw [g2, hv])
  have h1 : orc.ic n _ (st2.box k t b) r (st2.box k t u) := h1
  rw [box_of hb] at h1
  exact h1

theorem look_el {st : St} {q : Pl} {l : List Int} (hg : GetP st q fun v => v = .own tI .fz l) {i : Nat} (hi : i < l.length) {K : AV → Prop} (hk : K (.d tI (l.getD i tI.dflt))) : LookP st (q.child (.ix i tI.size)) K := by
  obtain ⟨s, h1, v, h2, rfl⟩ := GetP_iff.1 hg
  refine LookP_iff.2 ⟨s, h1, .d tI (l.getD i tI.dflt), ?_, rfl, rfl, hk⟩
  show PartP (Pl.child q (.ix i tI.size)).p.reverse _ _
  simp only [Pl.child, List.reverse_cons]
  rw [PartP_append]
  refine PartP_iff.2 ⟨_, h2, ?_⟩
  simp only [PartP, AV.stepP, if_true]
  exact ⟨hi, rfl⟩

/-- Samples and panels as they are handed back. -/
abbrev avSample (p : Sample) : AV := .pair (.own tIS (.ow .fz) p.1) (.pair (.own tI .fz p.2.1) .unit)

theorem ic_at {n k t : Nat} {vs : List AV} {st : St} {b : AV} {X : AV → AV → Prop} {G : AV → St → Prop} (hb : BoxIs st k t b) (H : ∀ P, Cur k t P → ∃ r u, X r u ∧ orc.ic n vs (P b) r (P u))
    (hg : ∀ r u, X r u → G r (st.box k t u)) : ∃ r st', orc.ic n vs st r st' ∧ G r st' := by
  obtain ⟨r, u, hx, h⟩ := H _ (cur_box hb)
  have h : orc.ic n vs (st.box k t b) r (st.box k t u) := h
  rw [box_of hb] at h
  exact ⟨r, _, h, hg r u hx⟩

theorem ic_lift {n : Nat} {vs : List AV} {f : Frm} {P : AV → St} {b : AV} {X : AV → AV → Prop} {G : AV → St → Prop} (H : ∃ r u, X r u ∧ orc.ic n vs (f :: P b) r (f :: P u)) (hg : ∀ r u, X r u → G r (f :: P u)) :
    ∃ r st', orc.ic n vs (f :: P b) r st' ∧ G r st' := by
  obtain ⟨r, u, hx, h⟩ := H
  exact ⟨r, _, h, hg r u hx⟩
abbrev avPlane (w : List Int) (b : Int) : AV := .pair (.own tI .fz w) (.pair (.d tI b) .unit)

/-- What the box holds: a code, how much of it is read at most, and a seed. -/
inductive Tail (code : List Int) (n : Nat) : AV → Prop where
  | mk (a : Nat) (s : Int) (h : a ≤ n) : Tail code n (.pair .unit (.pair (.d tB code) (.pair (.d tI (a : Int)) (.pair (.d t64 s) .unit))))
theorem Tail.reg {code : List Int} {n m : Nat} {b u : AV} (h : Tail code n b) (g : Tail code m u) : b.regA 0 = 0 ∧ u.regA 0 = 0 ∧ u.size = b.size := by
  cases h; cases g; exact ⟨rfl, rfl, rfl⟩
theorem Tail.le {code : List Int} {n m : Nat} {b : AV} (h : Tail code n b) (g : n ≤ m) : Tail code m b := by
  cases h with
  | mk a s h => exact .mk a s (by omega)

/-- Codes. -/
structure IsCode (code : List Int) : Prop where
  len : code.length ≤ 1048576
  byte : ∀ n, n < code.length → 0 ≤ code.getD n 0 ∧ code.getD n 0 ≤ 255

theorem and_255 (x : Int) : 0 ≤ IntKind.i64.wrap (IntKind.u64.wrap ((BitVec.ofInt IntKind.u64.bits x &&& BitVec.ofInt IntKind.u64.bits 255).toNat : Int)) ∧ IntKind.i64.wrap (IntKind.u64.wrap ((BitVec.ofInt IntKind.u64.bits x &&& BitVec.ofInt IntKind.u64.bits 255).toNat : Int)) ≤ 255 := by
  have h : (BitVec.ofInt IntKind.u64.bits x &&& BitVec.ofInt IntKind.u64.bits 255).toNat ≤ 255 := by
    rw [BitVec.toNat_and]
    exact Nat.le_trans Nat.and_le_right (by decide)
  generalize (BitVec.ofInt IntKind.u64.bits x &&& BitVec.ofInt IntKind.u64.bits 255).toNat = m at h
  have e : IntKind.u64.wrap (m : Int) = m := by
    simp only [IntKind.wrap, IntKind.bits, IntKind.signed]
    simp; omega
  rw [e, wrap_in (by omega) (by omega)]
  omega

/-- The seed behind a step. -/
def stepS (s b : Int) : Int := IntKind.u64.wrap (IntKind.u64.wrap (IntKind.u64.wrap (s * 6364136223846793005) + IntKind.u64.wrap b) + 462197)
def byteC (code : List Int) (a : Nat) : Int := if a < code.length then IntKind.i64.wrap (code.getD a 0) else 0
def nextS (code : List Int) (a : Nat) (s : Int) : Int := stepS s (byteC code a)
def nextR (code : List Int) (a : Nat) (s : Int) : Int :=
  if a < code.length then byteC code a else IntKind.i64.wrap (IntKind.u64.wrap ((BitVec.ofInt IntKind.u64.bits ((nextS code a s).fdiv (2 ^ (min (40 : Int).toNat IntKind.u64.bits))) &&& BitVec.ofInt IntKind.u64.bits 255).toNat : Int))
theorem nextR_no {code : List Int} {a : Nat} (h : ¬ a < code.length) (s : Int) : nextR code a s = IntKind.i64.wrap (IntKind.u64.wrap ((BitVec.ofInt IntKind.u64.bits ((nextS code a s).fdiv (2 ^ (min (40 : Int).toNat IntKind.u64.bits))) &&& BitVec.ofInt IntKind.u64.bits 255).toNat : Int)) := if_neg h
theorem byteC_in {code : List Int} (hc : IsCode code) (a : Nat) : 0 ≤ byteC code a ∧ byteC code a ≤ 255 := by
  unfold byteC
  split
  · rename_i h
    obtain ⟨h1, h2⟩ := hc.byte a h
    rw [wrap_in (by omega) (by omega)]; omega
  · omega
theorem nextR_in {code : List Int} (hc : IsCode code) (a : Nat) (s : Int) : 0 ≤ nextR code a s ∧ nextR code a s ≤ 255 := by
  unfold nextR
  split
  · exact byteC_in hc a
  · exact and_255 _

end Go.Proofs.Ytlndfmmigndgeaa.Ev
