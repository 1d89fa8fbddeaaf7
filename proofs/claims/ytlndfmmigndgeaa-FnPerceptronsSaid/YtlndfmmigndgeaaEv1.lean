/- A proved evaluator for translated functions, part 1: what it computes is what the machine does. No conditions. -/
import Derived.Below
import Derived.Deep.MidRow
import Derived.Great.BuildSlice
import Derived.Laws.BytesString
import Derived.Laws.CopyRow
import Derived.Laws.MakeOwn
import Derived.Lib.AppendZerosOnto
import Derived.Orders
import Derived.WalkKit
import Derived.WideShapes
/- A small evaluator for the translated functions: typed values, owned slices held by value in slots, views of them by place. Definitions only; the proof that it tells the truth lies in the texts behind. -/
namespace Go.Proofs.Ytlndfmmigndgeaa.Ev
open Go
set_option linter.unusedSimpArgs false

/-- Shapes of data. -/
inductive Sh where
  | int (k : IntKind) | bool | str | unit | pair (a b : Sh) | sl (e : Sh) | fn (f : Nat) (c : Sh) | ptr (s : Sh)
  deriving DecidableEq

@[reducible] def Sh.den : Sh → Type
  | .int _ => Int
  | .bool => Bool
  | .str => ByteArray
  | .unit => Unit
  | .pair a b => a.den × b.den
  | .sl e => List e.den
  | .fn _ c => c.den
  | .ptr s => Option s.den

/-- Cells that a value of a shape takes. -/
def Sh.size : Sh → Nat
  | .unit => 0
  | .pair a b => a.size + b.size
  | _ => 1

def Sh.dflt : (s : Sh) → s.den
  | .int _ => (0 : Int)
  | .bool => false
  | .str => ByteArray.empty
  | .unit => ()
  | .pair a b => (a.dflt, b.dflt)
  | .sl _ => []
  | .fn _ c => c.dflt
  | .ptr _ => none

def Sh.isAgg : Sh → Bool
  | .unit | .pair _ _ => true
  | _ => false

/-- Which slices inside a value are owned: 'fz' none, 'ow' this one and below as told. -/
inductive Ow where
  | fz | pr (a b : Ow) | ow (o : Ow)
  deriving DecidableEq

def Ow.pr' : Ow → Ow → Ow
  | .fz, .fz => .fz
  | a, b => .pr a b

/-- The fullest ownership of a shape. -/
def Sh.full : Sh → Ow
  | .pair a b => Ow.pr' a.full b.full
  | .sl e => .ow e.full
  | _ => .fz

/-- A step inside a value: the left part of a pair, the right one (behind so many cells), an element (of so many cells). -/
inductive Stp where
  | l | r (n : Nat) | ix (i sz : Nat)
  deriving DecidableEq

/-- A place: frame (0: the running one, k + 1: the k-th outer one), slot, whether the slot's box is meant, and the steps inside, the last one first. -/
structure Reg where
  k : Nat
  s : Nat
  bx : Bool
  deriving DecidableEq

structure Pl where
  r : Reg
  p : List Stp
  deriving DecidableEq

def Pl.child (q : Pl) (i : Stp) : Pl := { q with p := i :: q.p }

/-- Abstract values. -/
inductive AV where
  | d (s : Sh) (x : s.den)
  | own (e : Sh) (o : Ow) (l : List e.den)
  | hol (e : Sh) (o : Ow) (l : List e.den) (i : Nat) (a : AV)
  | vw (q : Pl) (e : Sh)
  | sub (q : Pl) (e : Sh) (lo n : Nat)
  | ptr (q : Pl)
  | dp (s : Sh) (x : s.den)
  | pair (a b : AV)
  | unit
  | tup (a : AV)
  | fn (f : Nat) (caps : AV)
  | nils
  | undef

def AV.isAgg : AV → Bool
  | .pair _ _ | .unit => true
  | .d s _ => s.isAgg
  | _ => false

/-- Cells that a value takes. -/
def AV.size : AV → Nat
  | .d s _ => s.size
  | .pair a b => a.size + b.size
  | .unit => 0
  | _ => 1

/-- A typed value with its ownership. -/
structure Pk where
  s : Sh
  o : Ow
  x : s.den

def unpack : (s : Sh) → Ow → s.den → AV
  | .pair a b, .pr o1 o2, x => .pair (unpack a o1 x.1) (unpack b o2 x.2)
  | .sl e, .ow o, l => .own e o l
  | s, _, x => .d s x

def AV.pack : AV → Option Pk
  | .d s x => some ⟨s, .fz, x⟩
  | .own e o l => some ⟨.sl e, .ow o, l⟩
  | .unit => some ⟨.unit, .fz, ()⟩
  | .pair a b =>
    match a.pack, b.pack with
    | some x, some y => some ⟨.pair x.s y.s, Ow.pr' x.o y.o, (x.x, y.x)⟩
    | _, _ => none
  | _ => none

def castDen {s t : Sh} (h : s = t) (x : s.den) : t.den := h ▸ x

/-- Nothing is known of it, or it is a bundle of results. -/
def AV.isBad : AV → Bool
  | .undef | .tup _ => true
  | _ => false

def AV.hasOwn : AV → Bool
  | .own _ _ _ => true
  | .hol _ _ _ _ _ => true
  | .pair a b => a.hasOwn || b.hasOwn
  | .tup a => a.hasOwn
  | _ => false

/-- A value without views. -/
def AV.solid : AV → Bool
  | .d _ _ => true
  | .own _ _ _ => true
  | .pair a b => a.solid && b.solid
  | .unit => true
  | .undef => true
  | _ => false

/-- A slot: its value, what is in the box that the slot's operation made, and whether views of either may be about. -/
structure Slot where
  v : AV
  b : AV
  fv : Bool
  fb : Bool

abbrev Frm := List Slot
abbrev St := List Frm

def Slot.at (s : Slot) (bx : Bool) : AV := if bx then s.b else s.v
def Slot.put (s : Slot) (bx : Bool) (v : AV) : Slot := if bx then { s with b := v } else { s with v := v }
def Slot.flag (s : Slot) (bx : Bool) : Bool := if bx then s.fb else s.fv

/-- Does the path lie at or under another one (paths: last step first)? -/
def under (p q : List Stp) : Bool := Nat.ble q.length p.length && q.isSuffixOf p

/-- The path of the node that a path leads into: what is ahead of its last element step. -/
def nodeOf : List Stp → List Stp
  | .l :: p => nodeOf p
  | .r _ :: p => nodeOf p
  | .ix _ _ :: p => p
  | [] => []

/-- Views under a place are struck; 'k': the place's frame as this frame sees it. -/
def AV.scrub (r : Reg) (p : List Stp) : AV → AV
  | .vw q e => if q.r = r ∧ under q.p p then .undef else .vw q e
  | .sub q e lo n => if q.r = r ∧ under q.p p then .undef else .sub q e lo n
  | .ptr q => if q.r = r ∧ under (nodeOf q.p) p then .undef else .ptr q
  | .pair a b => .pair (a.scrub r p) (b.scrub r p)
  | .tup a => .tup (a.scrub r p)
  | .fn f a => .fn f (a.scrub r p)
  | v => v

def Slot.scrub (r : Reg) (p : List Stp) (s : Slot) : Slot := { s with v := s.v.scrub r p, b := s.b.scrub r p }

/-- Only the running frame's own places are ever struck: outer frames hold no views of them. -/
def St.scrub (s : Nat) (bx : Bool) (p : List Stp) : St → St
  | [] => []
  | f :: o => f.map (Slot.scrub ⟨0, s, bx⟩ p) :: o

/-- The steps of a machine with slots. -/
inductive M (α : Type) : Type where
  | pure (a : α)
  | rd (k s : Nat) (f : Slot → M α)
  | wr (k s : Nat) (v : Slot) (m : M α)
  | get (q : Pl) (f : AV → M α)
  | look (q : Pl) (f : AV → M α)
  | hd (s : Nat) (f : Option Sh → M α)
  | put (q : Pl) (u : AV) (m : M α)
  | scr (s : Nat) (bx : Bool) (p : List Stp) (m : M α)
  | ext (t i : Nat) (f : AV → M α)
  | grd (c : Prop) (m : M α)
  | br (b : Bool) (x y : M α)
  | call (f : Nat) (args : List AV) (froz : Bool) (g : Pk → M α)
  | inl (f : Nat) (args : List AV) (g : AV → M α)
  | fail

namespace M
def bind {α β : Type} : M α → (α → M β) → M β
  | .pure a, f => f a
  | .rd k s g, f => .rd k s fun v => (g v).bind f
  | .wr k s v m, f => .wr k s v (m.bind f)
  | .get q g, f => .get q fun v => (g v).bind f
  | .look q g, f => .look q fun v => (g v).bind f
  | .hd s g, f => .hd s fun v => (g v).bind f
  | .put q u m, f => .put q u (m.bind f)
  | .scr s b p m, f => .scr s b p (m.bind f)
  | .ext t i g, f => .ext t i fun v => (g v).bind f
  | .grd c m, f => .grd c (m.bind f)
  | .br b x y, f => .br b (x.bind f) (y.bind f)
  | .call n as z g, f => .call n as z fun v => (g v).bind f
  | .inl n as g, f => .inl n as fun v => (g v).bind f
  | .fail, _ => .fail
end M
instance : Monad M where
  pure := M.pure
  bind := M.bind

def St.get (st : St) (k s : Nat) : Option Slot := (st[k]?).bind fun f => f[s]?
def St.set (st : St) (k s : Nat) (v : Slot) : St := st.modify k fun f => f.set s v

/-- No slice inside is frozen. -/
def closed : Sh → Ow → Bool
  | .pair a b, .pr o1 o2 => closed a o1 && closed b o2
  | .pair a b, _ => closed a .fz && closed b .fz
  | .sl e, .ow o => closed e o
  | .sl _, _ => false
  | .fn _ _, _ => false
  | .ptr _, _ => false
  | _, _ => true

/-- What calls do, told from outside. -/
structure Orc where
  pc : Nat → List AV → Pk → Prop
  ic : Nat → List AV → St → AV → St → Prop

def Nat.fz (n : Nat) (k : Nat → Prop) : Prop :=
  match n with
  | 0 => k 0
  | m + 1 => k (m + 1)
theorem Nat.fz_eq (n : Nat) (k : Nat → Prop) : Nat.fz n k = k n := by cases n <;> rfl
/-- The place, with its region laid open. -/
def Pl.force (q : Pl) (k : Pl → Prop) : Prop :=
  match q with
  | ⟨r, p⟩ => match r with
    | ⟨n, s, bx⟩ => k ⟨⟨n, s, bx⟩, p⟩

def Pl.forceR (q : Pl) (k : Nat → Nat → Prop) : Prop :=
  match q with
  | ⟨r, _⟩ => match r with
    | ⟨n, s, _⟩ => k n s

theorem Pl.forceR_eq (q : Pl) (k : Nat → Nat → Prop) : q.forceR k = k q.r.k q.r.s := rfl
theorem Pl.force_eq (q : Pl) (k : Pl → Prop) : q.force k = k q := rfl

/-- The value, with its outermost form laid open (so that a computation by hand does it once). -/
def AV.force (v : AV) (k : AV → Prop) : Prop :=
  match v with
  | .d s x => k (.d s x)
  | .own e o l => k (.own e o l)
  | .hol e o l i a => a.force fun a => k (.hol e o l i a)
  | .vw q e => q.force fun q => k (.vw q e)
  | .sub q e lo n => q.force fun q => k (.sub q e lo n)
  | .ptr q => q.force fun q => k (.ptr q)
  | .dp s x => k (.dp s x)
  | .pair a b => a.force fun a => b.force fun b => k (.pair a b)
  | .unit => k .unit
  | .tup a => a.force fun a => k (.tup a)
  | .fn f a => a.force fun a => k (.fn f a)
  | .nils => k .nils
  | .undef => k .undef

theorem AV.force_eq (v : AV) : ∀ k : AV → Prop, v.force k = k v := by
  induction v with
  | pair a b iha ihb => intro k; simp only [AV.force, iha, ihb]
  | tup a ih => intro k; simp only [AV.force, ih]
  | hol e o l i a ih => intro k; simp only [AV.force, ih]
  | fn f a ih => intro k; simp only [AV.force, ih]
  | vw q e => intro k; simp only [AV.force, Pl.force_eq]
  | sub q e lo n => intro k; simp only [AV.force, Pl.force_eq]
  | ptr q => intro k; simp only [AV.force, Pl.force_eq]
  | _ => intro k; rfl

def Slot.force (s : Slot) (k : Slot → Prop) : Prop :=
  match s with
  | ⟨v, b, true, true⟩ => v.force fun v => b.force fun b => k ⟨v, b, true, true⟩
  | ⟨v, b, true, false⟩ => v.force fun v => b.force fun b => k ⟨v, b, true, false⟩
  | ⟨v, b, false, true⟩ => v.force fun v => b.force fun b => k ⟨v, b, false, true⟩
  | ⟨v, b, false, false⟩ => v.force fun v => b.force fun b => k ⟨v, b, false, false⟩

theorem Slot.force_eq (s : Slot) (k : Slot → Prop) : s.force k = k s := by
  rcases s with ⟨v, b, fv, fb⟩
  cases fv <;> cases fb <;> simp only [Slot.force, AV.force_eq]

def Frm.getK (f : Frm) (s : Nat) (k : Slot → Prop) : Prop :=
  match f, s with
  | [], _ => False
  | x :: _, 0 => k x
  | _ :: r, s + 1 => Frm.getK r s k

def Frm.setK (f : Frm) (s : Nat) (v : Slot) (k : Frm → Prop) : Prop :=
  match f, s with
  | [], _ => False
  | _ :: r, 0 => k (v :: r)
  | x :: r, s + 1 => Frm.setK r s v fun r' => k (x :: r')

def St.getK (st : St) (n s : Nat) (k : Slot → Prop) : Prop :=
  match st, n with
  | [], _ => False
  | f :: _, 0 => Frm.getK f s k
  | _ :: r, n + 1 => St.getK r n s k

def St.setK (st : St) (n s : Nat) (v : Slot) (k : St → Prop) : Prop :=
  match st, n with
  | [], _ => False
  | f :: r, 0 => Frm.setK f s v fun f' => k (f' :: r)
  | f :: r, n + 1 => St.setK r n s v fun r' => k (f :: r')

theorem Frm.getK_eq (f : Frm) : ∀ (s : Nat) (k : Slot → Prop), Frm.getK f s k = (match f[s]? with | some v => k v | none => False) := by
  induction f with
  | nil => intro s k; rfl
  | cons x r ih => intro s k; cases s with
    | zero => rfl
    | succ s => simp only [Frm.getK, ih, List.getElem?_cons_succ]

theorem Frm.setK_eq (f : Frm) : ∀ (s : Nat) (v : Slot) (k : Frm → Prop), Frm.setK f s v k = (match f[s]? with | some _ => k (f.set s v) | none => False) := by
  induction f with
  | nil => intro s v k; rfl
  | cons x r ih => intro s v k; cases s with
    | zero => rfl
    | succ s => simp only [Frm.setK, ih, List.getElem?_cons_succ, List.set_cons_succ]

theorem St.getK_eq (st : St) : ∀ (n s : Nat) (k : Slot → Prop), St.getK st n s k = (match st.get n s with | some v => k v | none => False) := by
  induction st with
  | nil => intro n s k; rfl
  | cons f r ih => intro n s k; cases n with
    | zero => simp only [St.getK, Frm.getK_eq, St.get, List.getElem?_cons_zero, Option.bind_some]
    | succ n => simp only [St.getK, ih, St.get, List.getElem?_cons_succ]

theorem St.setK_eq (st : St) : ∀ (n s : Nat) (v : Slot) (k : St → Prop), St.setK st n s v k = (match st.get n s with | some _ => k (st.set n s v) | none => False) := by
  induction st with
  | nil => intro n s v k; rfl
  | cons f r ih => intro n s v k; cases n with
    | zero => simp only [St.setK, Frm.setK_eq, St.get, St.set, List.getElem?_cons_zero, Option.bind_some]; rfl
    | succ n => simp only [St.setK, ih, St.get, St.set, List.getElem?_cons_succ]; rfl

/-! ### Parts, told forwards -/

def AV.stepP : AV → Stp → (AV → Prop) → Prop
  | .pair x _, .l, K => K x
  | .pair x y, .r n, K => if x.size = n then K y else False
  | .d (.pair s _) x, .l, K => K (.d s x.1)
  | .d (.pair s t) x, .r n, K => if s.size = n then K (.d t x.2) else False
  | .own e o l, .ix i z, K => if e.size = z then i < l.length ∧ K (unpack e o (l.getD i e.dflt)) else False
  | .hol e _ _ j a, .ix i z, K => if e.size = z then i = j ∧ K a else False
  | _, _, _ => False

def PartP : List Stp → AV → (AV → Prop) → Prop
  | [], a, K => K a
  | i :: p, a, K => a.stepP i fun b => PartP p b K

/-- An element put back; one that is not whole leaves a hole. -/
def putElemP (e : Sh) (o : Ow) (l : List e.den) (i : Nat) (K : AV → Prop) (u : AV) : Prop :=
  match u.pack with
  | some w => if h : w.s = e ∧ w.o = o then K (.own e o (l.set i (castDen h.1 w.x))) else cond u.solid (K (.hol e o l i u)) False
  | none => cond u.solid (K (.hol e o l i u)) False

def UpdP (v : AV) : List Stp → AV → (AV → Prop) → Prop
  | [], a, K => if v.size = a.size then K v else False
  | .l :: p, .pair x y, K => UpdP v p x fun x' => K (.pair x' y)
  | .r n :: p, .pair x y, K => if x.size = n then UpdP v p y fun y' => K (.pair x y') else False
  | .l :: p, .d (.pair s t) x, K => UpdP v p (.d s x.1) fun x' => K (.pair x' (.d t x.2))
  | .r n :: p, .d (.pair s t) x, K => if s.size = n then UpdP v p (.d t x.2) fun y' => K (.pair (.d s x.1) y') else False
  | .ix i z :: p, .own e o l, K => if e.size = z then i < l.length ∧ UpdP v p (unpack e o (l.getD i e.dflt)) (putElemP e o l i K) else False
  | .ix i z :: p, .hol e o l j a, K => if e.size = z then i = j ∧ UpdP v p a (putElemP e o l j K) else False
  | _ :: _, _, _ => False

def GetP (st : St) (q : Pl) (K : AV → Prop) : Prop := St.getK st q.r.k q.r.s fun s => PartP q.p.reverse (s.at q.r.bx) K

def LookP (st : St) (q : Pl) (K : AV → Prop) : Prop :=
  St.getK st q.r.k q.r.s fun s => PartP q.p.reverse (s.at q.r.bx) fun v => cond v.isBad False (cond (v.hasOwn && !(s.flag q.r.bx)) False (K v))

def PutP (st : St) (q : Pl) (u : AV) (K : St → Prop) : Prop :=
  St.getK st q.r.k q.r.s fun s => UpdP u q.p.reverse (s.at q.r.bx) fun w => (s.put q.r.bx w).force fun v => St.setK st q.r.k q.r.s v K

/-- A part of a slot or of its box, by the steps to it, the first one first, that lead through no element. -/
structure Pt where
  k : Nat
  s : Nat
  bx : Bool
  p : List Stp

def GetT (st : St) (x : Pt) (K : AV → Prop) : Prop := St.getK st x.k x.s fun s => PartP x.p (s.at x.bx) K

theorem stepP_iff {a : AV} {i : Stp} {K : AV → Prop} : a.stepP i K ↔ ∃ b, a.stepP i (fun u => u = b) ∧ K b := by
  have one : ∀ {c : Prop} {v : AV}, (c ∧ K v) ↔ ∃ b, (c ∧ v = b) ∧ K b :=
    ⟨fun ⟨a, b⟩ => ⟨_, ⟨a, rfl⟩, b⟩, fun ⟨_, ⟨a, e⟩, b⟩ => ⟨a, e ▸ b⟩⟩
  cases i with
  | l =>
    cases a with
    | pair x y => simp [AV.stepP]
    | d s x => cases s <;> simp [AV.stepP]
    | _ => simp [AV.stepP]
  | r n =>
    cases a with
    | pair x y => simp only [AV.stepP]; split <;> simp
    | d s x => cases s <;> simp only [AV.stepP] <;> first | (split <;> simp; done) | simp
    | _ => simp [AV.stepP]
  | ix j z =>
    cases a with
    | own e o l =>
      simp only [AV.stepP]
      split
      · exact one
      · simp
    | hol e o l k b =>
      simp only [AV.stepP]
      split
      · exact one
      · simp
    | d s x => cases s <;> simp [AV.stepP]
    | _ => simp [AV.stepP]

theorem PartP_iff : ∀ {p : List Stp} {a : AV} {K : AV → Prop}, PartP p a K ↔ ∃ b, PartP p a (fun u => u = b) ∧ K b := by
  intro p
  induction p with
  | nil => intro a K; simp [PartP]
  | cons i p ih =>
    intro a K
    simp only [PartP]
    rw [stepP_iff]
    constructor
    · rintro ⟨b, h1, h2⟩
      obtain ⟨c, h3, h4⟩ := ih.1 h2
      exact ⟨c, stepP_iff.2 ⟨b, h1, h3⟩, h4⟩
    · rintro ⟨c, h1, h2⟩
      obtain ⟨b, h3, h4⟩ := stepP_iff.1 h1
      exact ⟨b, h3, ih.2 ⟨c, h4, h2⟩⟩

theorem UpdP_iff {v : AV} : ∀ {p : List Stp} {a : AV} {K : AV → Prop}, UpdP v p a K ↔ ∃ b, UpdP v p a (fun u => u = b) ∧ K b := by
  intro p
  induction p with
  | nil => intro a K; simp only [UpdP]; split <;> simp
  | cons i p ih =>
    intro a K
    have wrap : ∀ {x : AV} {g : AV → AV}, UpdP v p x (fun x' => K (g x')) ↔ ∃ b, UpdP v p x (fun x' => g x' = b) ∧ K b := by
      intro x g
      rw [ih]
      constructor
      · rintro ⟨c, h1, h2⟩; exact ⟨g c, ih.2 ⟨c, h1, rfl⟩, h2⟩
      · rintro ⟨b, h1, h2⟩
        obtain ⟨c, h3, h4⟩ := ih.1 h1
        exact ⟨c, h3, by rw [h4]; exact h2⟩
    have pe : ∀ {e : Sh} {o : Ow} {l : List e.den} {i : Nat} {u : AV}, putElemP e o l i K u ↔ ∃ b, putElemP e o l i (fun x => x = b) u ∧ K b := by
      intro e o l i u
      simp only [putElemP]
      have hol : cond u.solid (K (.hol e o l i u)) False ↔ ∃ b, cond u.solid (AV.hol e o l i u = b) False ∧ K b := by cases u.solid <;> simp
      split
      · split
        · simp
        · exact hol
      · exact hol
    cases i with
    | l =>
      cases a with
      | pair x y => simp only [UpdP]; exact wrap (g := fun x' => .pair x' y)
      | d s x => cases s with
        | pair s t => simp only [UpdP]; exact wrap (g := fun x' => .pair x' (.d t x.2))
        | _ => simp [UpdP]
      | _ => simp [UpdP]
    | r n =>
      cases a with
      | pair x y =>
        simp only [UpdP]
        split
        · exact wrap (g := fun y' => .pair x y')
        · simp
      | d s x => cases s with
        | pair s t =>
          simp only [UpdP]
          split
          · exact wrap (g := fun y' => .pair (.d s x.1) y')
          · simp
        | _ => simp [UpdP]
      | _ => simp [UpdP]
    | ix j z =>
      cases a with
      | own e o l =>
        simp only [UpdP]
        split
        · rw [ih]
          constructor
          · rintro ⟨hj, c, h1, h2⟩
            obtain ⟨b, h3, h4⟩ := pe.1 h2
            exact ⟨b, ⟨hj, ih.2 ⟨c, h1, h3⟩⟩, h4⟩
          · rintro ⟨b, ⟨hj, h1⟩, h2⟩
            obtain ⟨c, h3, h4⟩ := ih.1 h1
            exact ⟨hj, c, h3, pe.2 ⟨b, h4, h2⟩⟩
        · simp
      | hol e o l k b' =>
        simp only [UpdP]
        split
        · rw [ih]
          constructor
          · rintro ⟨hj, c, h1, h2⟩
            obtain ⟨b, h3, h4⟩ := pe.1 h2
            exact ⟨b, ⟨hj, ih.2 ⟨c, h1, h3⟩⟩, h4⟩
          · rintro ⟨b, ⟨hj, h1⟩, h2⟩
            obtain ⟨c, h3, h4⟩ := ih.1 h1
            exact ⟨hj, c, h3, pe.2 ⟨b, h4, h2⟩⟩
        · simp
      | d s x => cases s <;> simp [UpdP]
      | _ => simp [UpdP]

theorem GetP_iff {st : St} {q : Pl} {K : AV → Prop} : GetP st q K ↔ ∃ s, st.get q.r.k q.r.s = some s ∧ ∃ v, PartP q.p.reverse (s.at q.r.bx) (fun u => u = v) ∧ K v := by
  simp only [GetP, St.getK_eq]
  cases st.get q.r.k q.r.s with
  | none => simp
  | some s => simp only [Option.some.injEq, exists_eq_left']; exact PartP_iff

theorem LookP_iff {st : St} {q : Pl} {K : AV → Prop} : LookP st q K ↔ ∃ s, st.get q.r.k q.r.s = some s ∧ ∃ v, PartP q.p.reverse (s.at q.r.bx) (fun u => u = v) ∧ v.isBad = false ∧ (v.hasOwn && !(s.flag q.r.bx)) = false ∧ K v := by
  simp only [LookP, St.getK_eq]
  cases st.get q.r.k q.r.s with
  | none => simp
  | some s =>
    simp only [Option.some.injEq, exists_eq_left']
    rw [PartP_iff]
    refine exists_congr fun v => and_congr_right fun _ => ?_
    cases v.isBad <;> cases (v.hasOwn && !(s.flag q.r.bx)) <;> simp

theorem PutP_iff {st : St} {q : Pl} {u : AV} {K : St → Prop} : PutP st q u K ↔ ∃ s, st.get q.r.k q.r.s = some s ∧ ∃ w, UpdP u q.p.reverse (s.at q.r.bx) (fun x => x = w) ∧ K (st.set q.r.k q.r.s (s.put q.r.bx w)) := by
  simp only [PutP, St.getK_eq, St.setK_eq, Slot.force_eq]
  cases st.get q.r.k q.r.s with
  | none => simp
  | some s => simp only [Option.some.injEq, exists_eq_left']; exact UpdP_iff

def Frm.forceK (f : Frm) (k : Frm → Prop) : Prop :=
  match f with
  | [] => k []
  | s :: r => s.force fun s => Frm.forceK r fun r => k (s :: r)

def St.forceK (st : St) (k : St → Prop) : Prop :=
  match st with
  | [] => k []
  | f :: r => Frm.forceK f fun f => k (f :: r)

/-- A state with other outer frames. -/
def St.tl : St → St → St
  | [], _ => []
  | f :: _, t => f :: t

theorem Frm.forceK_eq (f : Frm) : ∀ k : Frm → Prop, f.forceK k = k f := by
  induction f with
  | nil => intro k; rfl
  | cons s r ih => intro k; simp only [Frm.forceK, Slot.force_eq, ih]

theorem St.forceK_eq (st : St) : ∀ k : St → Prop, st.forceK k = k st := by
  induction st with
  | nil => intro k; rfl
  | cons f r ih => intro k; simp only [St.forceK, Frm.forceK_eq]

/-! ### Parts of bundles -/

def tupGet : AV → Nat → Option AV
  | .pair x _, 0 => some x
  | .pair _ y, n + 1 => tupGet y n
  | _, _ => none

def tupSet : AV → Nat → AV
  | .pair _ y, 0 => .pair .undef y
  | .pair x y, n + 1 => .pair x (tupSet y n)
  | v, _ => v

def tupK : AV → Nat → (AV → Prop) → Prop
  | .pair x _, 0, K => K x
  | .pair _ y, n + 1, K => tupK y n K
  | _, _, _ => False

theorem tupK_iff : ∀ {i : Nat} {a : AV} {K : AV → Prop}, tupK a i K ↔ ∃ v, tupGet a i = some v ∧ K v := by
  intro i
  induction i with
  | zero => intro a K; cases a <;> simp [tupK, tupGet]
  | succ i ih => intro a K; cases a <;> simp [tupK, tupGet, ih]

/-- A part of a bundle; what it owns leaves the bundle. -/
def ExtP (st : St) (t i : Nat) (K : AV → St → Prop) : Prop :=
  St.getK st 0 t fun s => match s with
    | ⟨.tup a, b, fv, fb⟩ => tupK a i fun v => v.force fun v => cond v.hasOwn (Slot.force ⟨.tup (tupSet a i), b, fv, fb⟩ fun s => St.setK st 0 t s fun st => K v st) (K v st)
    | _ => False

theorem ExtP_iff {st : St} {t i : Nat} {K : AV → St → Prop} : ExtP st t i K ↔ ∃ s, st.get 0 t = some s ∧ ∃ a, s.v = .tup a ∧ ∃ v, tupGet a i = some v ∧ K v (cond v.hasOwn (st.set 0 t { s with v := .tup (tupSet a i) }) st) := by
  simp only [ExtP, St.getK_eq, St.setK_eq, AV.force_eq, Slot.force_eq, tupK_iff]
  cases h : st.get 0 t with
  | none => simp
  | some s =>
    simp only [Option.some.injEq, exists_eq_left']
    obtain ⟨v, b, fv, fb⟩ := s
    cases v <;> simp
    refine exists_congr fun u => and_congr_right fun _ => ?_
    cases u.hasOwn <;> simp

/-- The part of a bundle as a part of a slot. -/
def tupPt : Nat → List Stp
  | 0 => [.l]
  | n + 1 => .r 0 :: tupPt n
def tupAt (t i : Nat) : Pt := ⟨0, t, false, tupPt i⟩

/-- The header of a slot that owns a list: whatever is taken inside, it stays. -/
def AV.hdr : AV → Option Sh
  | .own e _ _ => some e
  | .hol e _ _ _ _ => some e
  | _ => none
def Slot.hdr (s : Slot) : Option Sh := cond s.fv s.v.hdr none

/-- What must hold for steps to end as told. -/
def M.wp {α : Type} (C : Orc) : M α → St → (α → St → Prop) → Prop
  | .pure a, st, k => k a st
  | .rd n s f, st, k => St.getK st n s fun v => (f v).wp C st k
  | .wr n s v m, st, k => v.force fun v => St.setK st n s v fun st => m.wp C st k
  | .get q f, st, k => GetP st q fun v => v.force fun v => (f v).wp C st k
  | .look q f, st, k => LookP st q fun v => v.force fun v => (f v).wp C st k
  | .hd s f, st, k => St.getK st 0 s fun sl => (f sl.hdr).wp C st k
  | .put q u m, st, k => PutP st q u fun st => m.wp C st k
  | .scr s b p m, st, k => m.wp C (st.scrub s b p) k
  | .ext t i f, st, k => ExtP st t i fun v st => (f v).wp C st k
  | .grd c m, st, k => c ∧ m.wp C st k
  | .br b x y, st, k => cond b (x.wp C st k) (y.wp C st k)
  | .call f as z g, st, k => ∃ r, C.pc f as r ∧ (z = false → closed r.s r.o = true) ∧ (g r).wp C st k
  | .inl f as g, st, k => ∃ r st', C.ic f as st r st' ∧ st'.forceK fun st' => r.force fun r => (g r).wp C st' k
  | .fail, _, _ => False

theorem M.wp_bind {α β : Type} {C : Orc} (m : M α) (f : α → M β) (k : β → St → Prop) : ∀ st : St, (m.bind f).wp C st k ↔ m.wp C st fun a st' => (f a).wp C st' k := by
  induction m with
  | pure a => intro st; rfl
  | rd n s g ih => intro st; simp only [M.bind, M.wp, St.getK_eq, St.setK_eq, Slot.force_eq]; cases st.get n s <;> simp [ih]
  | wr n s v m ih => intro st; simp only [M.bind, M.wp, St.getK_eq, St.setK_eq, Slot.force_eq]; cases st.get n s <;> simp [ih]
  | get q g ih => intro st; simp only [M.bind, M.wp, AV.force_eq, GetP_iff, ih]
  | look q g ih => intro st; simp only [M.bind, M.wp, AV.force_eq, LookP_iff, ih]
  | hd s g ih => intro st; simp only [M.bind, M.wp, St.getK_eq]; cases st.get 0 s <;> simp [ih]
  | put q u m ih => intro st; simp only [M.bind, M.wp, PutP_iff, ih]
  | scr s b p m ih => intro st; simp only [M.bind, M.wp, ih]
  | ext t i g ih => intro st; simp only [M.bind, M.wp, ih]
  | grd c m ih => intro st; simp only [M.bind, M.wp, ih]
  | br b x y ihx ihy => intro st; simp only [M.bind, M.wp]; cases b <;> simp [ihx, ihy]
  | call n as z g ih => intro st; simp only [M.bind, M.wp, ih]
  | inl n as g ih => intro st; simp only [M.bind, M.wp, St.forceK_eq, AV.force_eq, ih]
  | fail => intro st; rfl

theorem M.wp_mono {α : Type} {C : Orc} (m : M α) {k k' : α → St → Prop} (h : ∀ a st, k a st → k' a st) : ∀ st : St, m.wp C st k → m.wp C st k' := by
  induction m with
  | pure a => intro st; exact h _ _
  | rd n s g ih => intro st; simp only [M.wp, St.getK_eq, St.setK_eq, Slot.force_eq]; cases st.get n s <;> simp; exact ih _ _
  | wr n s v m ih => intro st; simp only [M.wp, St.getK_eq, St.setK_eq, Slot.force_eq]; cases st.get n s <;> simp; exact ih _
  | get q g ih => intro st; simp only [M.wp, AV.force_eq, GetP_iff]; exact fun ⟨s, h1, v, h2, h3⟩ => ⟨s, h1, v, h2, ih _ _ h3⟩
  | look q g ih => intro st; simp only [M.wp, AV.force_eq, LookP_iff]; exact fun ⟨s, h1, v, h2, h3, h4, h5⟩ => ⟨s, h1, v, h2, h3, h4, ih _ _ h5⟩
  | hd s g ih => intro st; simp only [M.wp, St.getK_eq]; cases st.get 0 s <;> simp; exact ih _ _
  | put q u m ih => intro st; simp only [M.wp, PutP_iff]; exact fun ⟨s, h1, v, h2, h3⟩ => ⟨s, h1, v, h2, ih _ h3⟩
  | scr s b p m ih => intro st; simp only [M.wp]; exact ih _
  | ext t i g ih => intro st; simp only [M.wp, ExtP_iff]; exact fun ⟨s, h1, a, h2, v, h3, h4⟩ => ⟨s, h1, a, h2, v, h3, ih _ _ h4⟩
  | grd c m ih => intro st; simp only [M.wp]; exact fun ⟨a, b⟩ => ⟨a, ih _ b⟩
  | br b x y ihx ihy => intro st; simp only [M.wp]; cases b <;> simp only [cond_true, cond_false]; exact ihy _; exact ihx _
  | call n as z g ih => intro st; simp only [M.wp]; exact fun ⟨r, a, b, c⟩ => ⟨r, a, b, ih _ _ c⟩
  | inl n as g ih => intro st; simp only [M.wp, St.forceK_eq, AV.force_eq]; exact fun ⟨r, st', a, b⟩ => ⟨r, st', a, ih _ _ b⟩
  | fail => intro st; exact id

theorem M.wp_rd {α : Type} {C : Orc} (n s : Nat) (f : Slot → M α) (st : St) (k : α → St → Prop) : (M.rd n s f).wp C st k ↔ ∃ v, st.get n s = some v ∧ (f v).wp C st k := by
  simp only [M.wp, St.getK_eq]; cases st.get n s <;> simp

theorem M.wp_hd {α : Type} {C : Orc} (s : Nat) (f : Option Sh → M α) (st : St) (k : α → St → Prop) : (M.hd s f).wp C st k ↔ ∃ v, st.get 0 s = some v ∧ (f v.hdr).wp C st k := by
  simp only [M.wp, St.getK_eq]; cases st.get 0 s <;> simp

theorem M.wp_wr {α : Type} {C : Orc} (n s : Nat) (v : Slot) (m : M α) (st : St) (k : α → St → Prop) : (M.wr n s v m).wp C st k ↔ (∃ u, st.get n s = some u) ∧ m.wp C (st.set n s v) k := by
  simp only [M.wp, St.setK_eq, Slot.force_eq]; cases st.get n s <;> simp

def Stp.isLR : Stp → Bool
  | .ix _ _ => false
  | _ => true

/-- The steps ahead of the first element, the first one first (of steps with the last one first). -/
def lrs : List Stp → List Stp → List Stp
  | [], a => a
  | .ix _ _ :: p, _ => lrs p []
  | .l :: p, a => lrs p (.l :: a)
  | .r n :: p, a => lrs p (.r n :: a)

def lrsK : List Stp → List Stp → (List Stp → Prop) → Prop
  | [], a, k => k a
  | .ix _ _ :: p, _, k => lrsK p [] k
  | .l :: p, a, k => lrsK p (.l :: a) k
  | .r n :: p, a, k => lrsK p (.r n :: a) k

theorem lrsK_eq : ∀ (p a : List Stp) (k : List Stp → Prop), lrsK p a k = k (lrs p a) := by
  intro p
  induction p with
  | nil => intro a k; rfl
  | cons i p ih => intro a k; cases i <;> simp only [lrsK, lrs, ih]

/-- The part that a place lies in. -/
def Pl.pt (q : Pl) : Pt := ⟨q.r.k, q.r.s, q.r.bx, lrs q.p []⟩
def Pl.ptK (q : Pl) (k : Pt → Prop) : Prop :=
  match q with
  | ⟨r, p⟩ => match r with
    | ⟨n, s, bx⟩ => Nat.fz n fun n => Nat.fz s fun s => match bx with
      | true => lrsK p [] fun p => k ⟨n, s, true, p⟩
      | false => lrsK p [] fun p => k ⟨n, s, false, p⟩
theorem Pl.ptK_eq (q : Pl) (k : Pt → Prop) : q.ptK k = k q.pt := by
  obtain ⟨⟨n, s, bx⟩, p⟩ := q
  simp only [Pl.ptK, Nat.fz_eq, lrsK_eq]
  cases bx <;> rfl

/-- What a run has read and written (slots by bits, and parts), which regions the views that it wrote or wrote over lead to, which regions' views it struck without finding any; and whether it did more than that. -/
structure Lg where
  r : Nat
  w : Nat
  v : Nat
  sc : Nat
  ps : List Pt
  qs : List Pt
  all : Bool
  h : Nat
  hw : Nat

def Lg.nil : Lg := ⟨0, 0, 0, 0, [], [], false, 0, 0⟩
def Lg.code (k s : Nat) : Nat := s * 8 + k
def Reg.code (n s : Nat) (bx : Bool) : Nat := (s * 2 + cond bx 1 0) * 8 + n
def Lg.saw (l : Lg) (k s : Nat) : Lg := ⟨l.r ||| 2 ^ Lg.code k s, l.w, l.v, l.sc, l.ps, l.qs, l.all, l.h, l.hw⟩
def Lg.wrote (l : Lg) (k s m : Nat) : Lg := ⟨l.r, l.w ||| 2 ^ Lg.code k s, l.v ||| m, l.sc, l.ps, l.qs, l.all, l.h, l.hw⟩
def Lg.sawP (l : Lg) (x : Pt) : Lg := ⟨l.r, l.w, l.v, l.sc, x :: l.ps, l.qs, l.all, l.h, l.hw⟩
def Lg.wroteP (l : Lg) (x : Pt) (m : Nat) : Lg := ⟨l.r, l.w, l.v ||| m, l.sc, x :: l.ps, x :: l.qs, l.all, l.h, l.hw⟩
def Lg.struck (l : Lg) (c : Nat) : Lg := ⟨l.r, l.w, l.v, l.sc ||| 2 ^ c, l.ps, l.qs, l.all, l.h, l.hw⟩
def Lg.more (l : Lg) : Lg := ⟨l.r, l.w, l.v, l.sc, l.ps, l.qs, true, l.h, l.hw⟩
def Lg.sawH (l : Lg) (s : Nat) : Lg := ⟨l.r, l.w, l.v, l.sc, l.ps, l.qs, l.all, l.h ||| 2 ^ Lg.code 0 s, l.hw⟩
/-- A whole value put in a slot changes its header. -/
def Lg.hdW (l : Lg) (q : Pl) : Lg :=
  match q.p with
  | [] => ⟨l.r, l.w, l.v, l.sc, l.ps, l.qs, l.all, l.h, l.hw ||| 2 ^ Lg.code q.r.k q.r.s⟩
  | _ => l

def Lg.hdK (l : Lg) (q : Pl) (x : Pt) (f : Lg → Prop) : Prop :=
  match q.p with
  | [] => f ⟨l.r, l.w, l.v, l.sc, l.ps, l.qs, l.all, l.h, l.hw ||| 2 ^ Lg.code x.k x.s⟩
  | _ => f l
theorem Lg.hdK_eq (l : Lg) (q : Pl) (f : Lg → Prop) : l.hdK q q.pt f = f (l.hdW q) := by
  unfold Lg.hdK Lg.hdW
  split <;> rfl

theorem Lg.hdK_eq' (l : Lg) (q : Pl) (f : Lg → Prop) : l.hdK q ⟨q.r.k, q.r.s, q.r.bx, lrs q.p []⟩ f = f (l.hdW q) := Lg.hdK_eq l q f

/-- No part lies in a slot of the mask. -/
def offs : List Pt → Nat → Bool
  | [], _ => true
  | ⟨k, s, _, _⟩ :: r, m => cond (m.testBit (Lg.code k s)) false (offs r m)

/-- Two paths part. -/
def parting : List Stp → List Stp → Bool
  | .l :: _, .r _ :: _ => true
  | .r _ :: _, .l :: _ => true
  | .l :: p, .l :: q => parting p q
  | .r _ :: p, .r _ :: q => parting p q
  | _, _ => false

def Pt.off (x y : Pt) : Bool :=
  match x, y with
  | ⟨k, s, bx, p⟩, ⟨k', s', bx', p'⟩ => cond (Nat.beq k k' && Nat.beq s s' && (bx == bx')) (parting p p') true
def offL (x : Pt) : List Pt → Bool
  | [] => true
  | y :: r => cond (x.off y) (offL x r) false
def offLL : List Pt → List Pt → Bool
  | [], _ => true
  | x :: r, l => cond (offL x l) (offLL r l) false

/-- Two runs that do not touch each other. -/
def Lg.apart (a b : Lg) : Bool := !a.all && !b.all && Nat.beq (a.w &&& (b.r ||| b.w)) 0 && Nat.beq (b.w &&& a.r) 0 && Nat.beq (a.sc &&& b.v) 0 && Nat.beq (b.sc &&& a.v) 0 &&
  offs a.ps b.w && offs b.ps a.w && offs a.qs b.r && offs b.qs a.r && offLL a.qs b.ps && offLL b.qs a.ps && Nat.beq ((a.w ||| a.hw) &&& b.h) 0 && Nat.beq ((b.w ||| b.hw) &&& a.h) 0

/-- The regions that a value's views lead to, by bits. -/
def Pl.regA (q : Pl) (m : Nat) : Nat := m ||| 2 ^ Reg.code q.r.k q.r.s q.r.bx
def AV.regA : AV → Nat → Nat
  | .vw q _, m => q.regA m
  | .sub q _ _ _, m => q.regA m
  | .ptr q, m => q.regA m
  | .pair a b, m => b.regA (a.regA m)
  | .tup a, m => a.regA m
  | .fn _ a, m => a.regA m
  | _, m => m
def Pl.regK (q : Pl) (m : Nat) (k : Nat → Prop) : Prop :=
  match q with
  | ⟨r, _⟩ => match r with
    | ⟨n, s, bx⟩ => Nat.fz n fun n => Nat.fz s fun s => match bx with
      | true => k (m ||| 2 ^ Reg.code n s true)
      | false => k (m ||| 2 ^ Reg.code n s false)
theorem Pl.regK_eq (q : Pl) (m : Nat) (k : Nat → Prop) : q.regK m k = k (q.regA m) := by
  obtain ⟨⟨n, s, bx⟩, p⟩ := q
  simp only [Pl.regK, Nat.fz_eq, Pl.regA]
  cases bx <;> rfl
def AV.regK (v : AV) (m : Nat) (k : Nat → Prop) : Prop :=
  match v with
  | .vw q _ => q.regK m k
  | .sub q _ _ _ => q.regK m k
  | .ptr q => q.regK m k
  | .pair a b => a.regK m fun m => b.regK m k
  | .tup a => a.regK m k
  | .fn _ a => a.regK m k
  | _ => k m
def Slot.regA (s : Slot) (m : Nat) : Nat := s.b.regA (s.v.regA m)
def Slot.regK (s : Slot) (m : Nat) (k : Nat → Prop) : Prop := s.v.regK m fun m => s.b.regK m k

theorem AV.regK_eq (v : AV) : ∀ (m : Nat) (k : Nat → Prop), v.regK m k = k (v.regA m) := by
  induction v with
  | pair a b iha ihb => intro m k; simp only [AV.regK, AV.regA, iha, ihb]
  | tup a ih => intro m k; simp only [AV.regK, AV.regA, ih]
  | fn f a ih => intro m k; simp only [AV.regK, AV.regA, ih]
  | vw q s => intro m k; exact q.regK_eq m k
  | sub q s a b => intro m k; exact q.regK_eq m k
  | ptr q => intro m k; exact q.regK_eq m k
  | _ => intro m k; rfl
theorem Slot.regK_eq (s : Slot) (m : Nat) (k : Nat → Prop) : s.regK m k = k (s.regA m) := by simp only [Slot.regK, Slot.regA, AV.regK_eq]

/-- Does a value hold no view under a place? -/
def Reg.same (a b : Reg) : Bool := Nat.beq a.k b.k && Nat.beq a.s b.s && (a.bx == b.bx)
def AV.clean (r : Reg) (p : List Stp) : AV → Bool
  | .vw q _ => cond (q.r.same r) (!under q.p p) true
  | .sub q _ _ _ => cond (q.r.same r) (!under q.p p) true
  | .ptr q => cond (q.r.same r) (!under (nodeOf q.p) p) true
  | .pair a b => a.clean r p && b.clean r p
  | .tup a => a.clean r p
  | .fn _ a => a.clean r p
  | _ => true
def Frm.clean (r : Reg) (p : List Stp) : Frm → Bool
  | [] => true
  | s :: f => s.v.clean r p && s.b.clean r p && Frm.clean r p f
def St.clean (s : Nat) (bx : Bool) (p : List Stp) : St → Bool
  | [] => true
  | f :: _ => Frm.clean ⟨0, s, bx⟩ p f

theorem Reg.same_iff {a b : Reg} : a.same b = true ↔ a = b := by
  cases a; cases b
  simp only [Reg.same, Bool.and_eq_true, beq_iff_eq, Reg.mk.injEq, Nat.beq_eq, and_assoc]

theorem AV.clean_scrub {r : Reg} {p : List Stp} : ∀ {v : AV}, v.clean r p = true → v.scrub r p = v := by
  have one : ∀ {q : Pl} {c : Bool}, cond (q.r.same r) (!c) true = true → ¬ (q.r = r ∧ c = true) := by
    intro q c h ⟨e1, e2⟩
    rw [Reg.same_iff.2 e1, e2] at h; simp at h
  intro v
  induction v with
  | vw q e => intro h; simp only [AV.scrub, if_neg (one h)]
  | sub q e lo n => intro h; simp only [AV.scrub, if_neg (one h)]
  | ptr q => intro h; simp only [AV.scrub, if_neg (one h)]
  | pair a b iha ihb => intro h; simp only [AV.clean, Bool.and_eq_true] at h; simp only [AV.scrub, iha h.1, ihb h.2]
  | tup a ih => intro h; simp only [AV.scrub, ih h]
  | fn f a ih => intro h; simp only [AV.scrub, ih h]
  | _ => intro _; rfl

theorem St.clean_scrub {s : Nat} {bx : Bool} {p : List Stp} {st : St} (h : st.clean s bx p = true) : st.scrub s bx p = st := by
  cases st with
  | nil => rfl
  | cons f o =>
    have key : ∀ {f : Frm}, Frm.clean ⟨0, s, bx⟩ p f = true → f.map (Slot.scrub ⟨0, s, bx⟩ p) = f := by
      intro f
      induction f with
      | nil => intro _; rfl
      | cons a f ih =>
        intro h
        simp only [Frm.clean, Bool.and_eq_true] at h
        simp only [List.map_cons, ih h.2, List.cons.injEq, and_true]
        simp only [Slot.scrub, AV.clean_scrub h.1.1, AV.clean_scrub h.1.2]
    show f.map _ :: o = _
    rw [key h]

/-- A box of a slot, that nothing but its own slot's value is known to lead to, holds 'b'. -/
def BoxIs (st : St) (n t : Nat) (b : AV) : Prop := ∃ sl, st.get n t = some sl ∧ sl.b = b ∧ sl.fb = true
def St.box (st : St) (n t : Nat) (u : AV) : St := st.modify n fun f => f.modify t fun sl => { sl with b := u }
/-- A call that touches a box alone, and reads slots of the running frame, in every state. -/
def InlF (C : Orc) (f : Nat) (as : List AV) (rs : List Nat) (st : St) (n t : Nat) (b u r : AV) : Prop :=
  (b.regA 0 = 0 ∧ u.regA 0 = 0 ∧ u.size = b.size) ∧ ∀ st2, BoxIs st2 n t b → (∀ s ∈ rs, st2.get 0 s = st.get 0 s) → C.ic f as st2 r (st2.box n t u)
def Lg.sawL (l : Lg) : List Nat → Lg
  | [] => l
  | s :: r => (l.saw 0 s).sawL r

/-- As 'wp', with what the run reads and writes. -/
def M.wpL {α : Type} (C : Orc) : M α → St → Lg → (α → St → Lg → Prop) → Prop
  | .pure a, st, l, k => k a st l
  | .rd n s f, st, l, k => St.getK st n s fun v => (f v).wpL C st (l.saw n s) k
  | .wr n s v m, st, l, k => St.getK st n s fun u => u.regK 0 fun c => v.force fun v => v.regK c fun c => St.setK st n s v fun st => m.wpL C st (l.wrote n s c) k
  | .get q f, st, l, k => q.ptK fun x => GetP st q fun v => v.force fun v => (f v).wpL C st (l.sawP x) k
  | .look q f, st, l, k => q.ptK fun x => LookP st q fun v => v.force fun v => (f v).wpL C st (l.sawP x) k
  | .hd s f, st, l, k => St.getK st 0 s fun sl => (f sl.hdr).wpL C st (l.sawH s) k
  | .put q u m, st, l, k => q.ptK fun x => GetT st x fun o => o.regK 0 fun c => PutP st q u fun st => GetT st x fun o => o.regK c fun c => (l.wroteP x c).hdK q x fun l => m.wpL C st l k
  | .scr s b p m, st, l, k => cond (st.clean s b p) (m.wpL C st (l.struck (Reg.code 0 s b)) k) (m.wpL C (st.scrub s b p) l.more k)
  | .ext t i f, st, l, k => ExtP st t i fun v st => cond v.hasOwn (v.regK 0 fun c => (f v).wpL C st (l.wroteP (tupAt t i) c) k) ((f v).wpL C st (l.sawP (tupAt t i)) k)
  | .grd c m, st, l, k => c ∧ m.wpL C st l k
  | .br b x y, st, l, k => cond b (x.wpL C st l k) (y.wpL C st l k)
  | .call f as z g, st, l, k => ∃ r, C.pc f as r ∧ (z = false → closed r.s r.o = true) ∧ (g r).wpL C st l k
  | .inl f as g, st, l, k => ∃ r st' l', ((C.ic f as st r st' ∧ l' = l.more) ∨ (∃ rs n t b u, InlF C f as rs st n t b u r ∧ BoxIs st n t b ∧ st' = st.box n t u ∧ l' = (l.sawL rs).wroteP ⟨n, t, true, []⟩ 0)) ∧ st'.forceK fun st' => r.force fun r => (g r).wpL C st' l' k
  | .fail, _, _, _ => False

theorem wpL_wr {α : Type} {C : Orc} {n s : Nat} {v : Slot} {m : M α} {st : St} {l : Lg} {k : α → St → Lg → Prop} : (M.wr n s v m).wpL C st l k ↔ ∃ u, st.get n s = some u ∧ m.wpL C (st.set n s v) (l.wrote n s (v.regA (u.regA 0))) k := by
  simp only [M.wpL, St.getK_eq, St.setK_eq, Slot.force_eq, Slot.regK_eq]
  cases st.get n s <;> simp

theorem St.get_set_self {st : St} {k s : Nat} {u v : Slot} (h : st.get k s = some u) : (st.set k s v).get k s = some v := by
  simp only [St.get, St.set, List.getElem?_modify] at h ⊢
  cases hf : st[k]? with
  | none => rw [hf] at h; simp at h
  | some f =>
    rw [hf] at h
    have : s < f.length := by
      have h : f[s]? = some u := h
      exact (List.getElem?_eq_some_iff.1 h).1
    simp [this]

theorem GetT_iff {st : St} {x : Pt} {K : AV → Prop} : GetT st x K ↔ ∃ s, st.get x.k x.s = some s ∧ ∃ v, PartP x.p (s.at x.bx) (fun u => u = v) ∧ K v := by
  simp only [GetT, St.getK_eq]
  cases st.get x.k x.s with
  | none => simp
  | some s => simp only [Option.some.injEq, exists_eq_left']; exact PartP_iff

theorem wpL_put {α : Type} {C : Orc} {q : Pl} {u : AV} {m : M α} {st : St} {l : Lg} {k : α → St → Lg → Prop} : (M.put q u m).wpL C st l k ↔ ∃ s, st.get q.r.k q.r.s = some s ∧ ∃ o, PartP (lrs q.p []) (s.at q.r.bx) (fun x => x = o) ∧ ∃ w, UpdP u q.p.reverse (s.at q.r.bx) (fun x => x = w) ∧
    ∃ o', PartP (lrs q.p []) w (fun x => x = o') ∧ m.wpL C (st.set q.r.k q.r.s (s.put q.r.bx w)) ((l.wroteP q.pt (o'.regA (o.regA 0))).hdW q) k := by
  simp only [M.wpL, Pl.ptK_eq, AV.regK_eq, PutP_iff, GetT_iff, Pl.pt, Lg.hdK_eq']
  cases hg : st.get q.r.k q.r.s with
  | none => simp
  | some s =>
    have hput : (s.put q.r.bx · |>.at q.r.bx) = id := by funext w; cases q.r.bx <;> rfl
    simp only [Option.some.injEq, exists_eq_left', St.get_set_self hg]
    refine exists_congr fun o => and_congr_right fun _ => exists_congr fun w => and_congr_right fun _ => ?_
    rw [show (s.put q.r.bx w).at q.r.bx = w from congrFun hput w]

/-- What taking a part of a bundle logs. -/
def extLg (l : Lg) (t i : Nat) (v : AV) : Lg := cond v.hasOwn (l.wroteP (tupAt t i) (v.regA 0)) (l.sawP (tupAt t i))

theorem wpL_ext {α : Type} {C : Orc} {t i : Nat} {f : AV → M α} {st : St} {l : Lg} {k : α → St → Lg → Prop} : (M.ext t i f).wpL C st l k ↔ ∃ s, st.get 0 t = some s ∧ ∃ a, s.v = .tup a ∧ ∃ v, tupGet a i = some v ∧
    (f v).wpL C (cond v.hasOwn (st.set 0 t { s with v := .tup (tupSet a i) }) st) (extLg l t i v) k := by
  simp only [M.wpL, ExtP_iff, AV.regK_eq, extLg]
  refine exists_congr fun s => and_congr_right fun _ => exists_congr fun a => and_congr_right fun _ => exists_congr fun v => and_congr_right fun _ => ?_
  cases v.hasOwn <;> simp

theorem M.wpL_mono {α : Type} {C : Orc} (m : M α) {k k' : α → St → Lg → Prop} (h : ∀ a st l, k a st l → k' a st l) : ∀ (st : St) (l : Lg), m.wpL C st l k → m.wpL C st l k' := by
  induction m with
  | pure a => intro st l; exact h _ _ _
  | rd n s g ih => intro st l; simp only [M.wpL, St.getK_eq, St.setK_eq, Slot.force_eq]; cases st.get n s <;> simp; exact ih _ _ _
  | wr n s v m ih => intro st l; simp only [wpL_wr]; exact fun ⟨u, h1, h2⟩ => ⟨u, h1, ih _ _ h2⟩
  | get q g ih => intro st l; simp only [M.wpL, Pl.ptK_eq, AV.force_eq, GetP_iff]; exact fun ⟨s, h1, v, h2, h3⟩ => ⟨s, h1, v, h2, ih _ _ _ h3⟩
  | look q g ih => intro st l; simp only [M.wpL, Pl.ptK_eq, AV.force_eq, LookP_iff]; exact fun ⟨s, h1, v, h2, h3, h4, h5⟩ => ⟨s, h1, v, h2, h3, h4, ih _ _ _ h5⟩
  | hd s g ih => intro st l; simp only [M.wpL, St.getK_eq]; cases st.get 0 s <;> simp; exact ih _ _ _
  | put q u m ih => intro st l; simp only [wpL_put]; exact fun ⟨s, h1, o, h2, w, h3, o', h4, h5⟩ => ⟨s, h1, o, h2, w, h3, o', h4, ih _ _ h5⟩
  | scr s b p m ih => intro st l; simp only [M.wpL]; cases st.clean s b p <;> simp only [cond_true, cond_false] <;> exact ih _ _
  | ext t i g ih =>
    intro st l
    rw [wpL_ext, wpL_ext]
    exact fun ⟨s, h1, a, h2, v, h3, h4⟩ => ⟨s, h1, a, h2, v, h3, ih _ _ _ h4⟩
  | grd c m ih => intro st l; simp only [M.wpL]; exact fun ⟨a, b⟩ => ⟨a, ih _ _ b⟩
  | br b x y ihx ihy => intro st l; simp only [M.wpL]; cases b <;> simp only [cond_true, cond_false]; exact ihy _ _; exact ihx _ _
  | call n as z g ih => intro st l; simp only [M.wpL]; exact fun ⟨r, a, b, c⟩ => ⟨r, a, b, ih _ _ _ c⟩
  | inl n as g ih => intro st l; simp only [M.wpL, St.forceK_eq, AV.force_eq]; exact fun ⟨r, st', l', a, b⟩ => ⟨r, st', l', a, ih _ _ _ b⟩
  | fail => intro st l; exact id

end Go.Proofs.Ytlndfmmigndgeaa.Ev

/- The operations of the evaluator. -/
namespace Go.Proofs.Ytlndfmmigndgeaa.Ev
open Go

/-! ### Places -/

def M.ofOption {α : Type} : Option α → M α
  | some a => .pure a
  | none => .fail

/-- One step into a value. -/
def AV.step : AV → Stp → M AV
  | .pair x _, .l => .pure x
  | .pair x y, .r n => if x.size = n then .pure y else .fail
  | .d (.pair s _) x, .l => .pure (.d s x.1)
  | .d (.pair s t) x, .r n => if s.size = n then .pure (.d t x.2) else .fail
  | .own e o l, .ix i z => if e.size = z then .grd (i < l.length) (.pure (unpack e o (l.getD i e.dflt))) else .fail
  | .hol e _ _ j a, .ix i z => if e.size = z then .grd (i = j) (.pure a) else .fail
  | _, _ => .fail

/-- The part at a path (first step first). -/
def AV.part (a : AV) : List Stp → M AV
  | [] => .pure a
  | i :: p => (a.step i).bind fun b => b.part p

/-- An element put back. -/
def putElem (e : Sh) (o : Ow) (l : List e.den) (i : Nat) (u : AV) : M AV :=
  match u.pack with
  | some w => if h : w.s = e ∧ w.o = o then .pure (.own e o (l.set i (castDen h.1 w.x))) else .br u.solid (.pure (.hol e o l i u)) .fail
  | none => .br u.solid (.pure (.hol e o l i u)) .fail

/-- The value with another part at a path (first step first). -/
def AV.upd (v : AV) : List Stp → AV → M AV
  | [], a => if v.size = a.size then .pure v else .fail
  | .l :: p, .pair x y => (AV.upd v p x).bind fun x' => .pure (.pair x' y)
  | .r n :: p, .pair x y => if x.size = n then (AV.upd v p y).bind fun y' => .pure (.pair x y') else .fail
  | .l :: p, .d (.pair s t) x => (AV.upd v p (.d s x.1)).bind fun x' => .pure (.pair x' (.d t x.2))
  | .r n :: p, .d (.pair s t) x => if s.size = n then (AV.upd v p (.d t x.2)).bind fun y' => .pure (.pair (.d s x.1) y') else .fail
  | .ix i z :: p, .own e o l => if e.size = z then .grd (i < l.length) ((AV.upd v p (unpack e o (l.getD i e.dflt))).bind (putElem e o l i)) else .fail
  | .ix i z :: p, .hol e o l j a => if e.size = z then .grd (i = j) ((AV.upd v p a).bind (putElem e o l j)) else .fail
  | _ :: _, _ => .fail

def getPl (q : Pl) : M AV := .get q .pure

/-- A place as an inner frame sees it. -/
def Pl.lift (q : Pl) (n : Nat) : Pl := { q with r := { q.r with k := q.r.k + n } }

/-- A view of a value: its owned slices by place, its own views as this frame sees them. -/
def viewOf (q : Pl) : AV → AV
  | .own e _ _ => .vw q e
  | .hol e _ _ _ _ => .vw q e
  | .pair a b => .pair (viewOf (q.child .l) a) (viewOf (q.child (.r a.size)) b)
  | .vw u e => .vw (u.lift q.r.k) e
  | .sub u e lo n => .sub (u.lift q.r.k) e lo n
  | .ptr u => .ptr (u.lift q.r.k)
  | .tup _ => .undef
  | v => v

/-- Read a variable or a box's part as it may be copied: owned slices become views, which the flag must allow. -/
def lookPl (q : Pl) : M AV := .look q fun v => .pure (viewOf q v)

theorem stepP_wp {C : Orc} {a : AV} {i : Stp} {st : St} {k : AV → St → Prop} : (a.step i).wp C st k ↔ a.stepP i fun v => k v st := by
  cases i with
  | l =>
    cases a with
    | d s x => cases s <;> rfl
    | _ => rfl
  | r n =>
    cases a with
    | pair x y => simp only [AV.step, AV.stepP]; split <;> rfl
    | d s x => cases s <;> first | rfl | (simp only [AV.step, AV.stepP]; split <;> rfl)
    | _ => rfl
  | ix j z =>
    cases a with
    | own e o l => simp only [AV.step, AV.stepP]; split <;> rfl
    | hol e o l j a => simp only [AV.step, AV.stepP]; split <;> rfl
    | d s x => cases s <;> rfl
    | _ => rfl

theorem partP_wp {C : Orc} {st : St} {k : AV → St → Prop} : ∀ {p : List Stp} {a : AV}, (a.part p).wp C st k ↔ PartP p a fun v => k v st := by
  intro p
  induction p with
  | nil => intro a; rfl
  | cons i p ih => intro a; simp only [AV.part, PartP, M.wp_bind, stepP_wp, ih]

theorem putElem_wp {C : Orc} {st : St} {k : AV → St → Prop} {e : Sh} {o : Ow} {l : List e.den} {i : Nat} {u : AV} : (putElem e o l i u).wp C st k ↔ putElemP e o l i (fun v => k v st) u := by
  simp only [putElem, putElemP]
  cases u.pack with
  | none => exact Iff.rfl
  | some w =>
    by_cases h : w.s = e ∧ w.o = o
    · simp only [dif_pos h]; rfl
    · simp only [dif_neg h]; exact Iff.rfl

theorem updP_wp {v : AV} {C : Orc} {st : St} : ∀ {p : List Stp} {a : AV} {k : AV → St → Prop}, (AV.upd v p a).wp C st k ↔ UpdP v p a fun v => k v st := by
  intro p
  induction p with
  | nil => intro a k; simp only [AV.upd, UpdP]; split <;> rfl
  | cons i p ih =>
    intro a k
    cases i with
    | l =>
      cases a with
      | pair x y => simp only [AV.upd, UpdP, M.wp_bind, ih]; rfl
      | d s x => cases s with
        | pair s t => simp only [AV.upd, UpdP, M.wp_bind, ih]; rfl
        | _ => simp only [AV.upd, UpdP]; rfl
      | _ => simp only [AV.upd, UpdP]; rfl
    | r n =>
      cases a with
      | pair x y =>
        simp only [AV.upd, UpdP]
        split
        · simp only [M.wp_bind, ih]; rfl
        · rfl
      | d s x => cases s with
        | pair s t =>
          simp only [AV.upd, UpdP]
          split
          · simp only [M.wp_bind, ih]; rfl
          · rfl
        | _ => simp only [AV.upd, UpdP]; rfl
      | _ => simp only [AV.upd, UpdP]; rfl
    | ix j z =>
      cases a with
      | own e o l =>
        simp only [AV.upd, UpdP]
        split
        · show (_ ∧ _) ↔ _
          simp only [M.wp_bind, ih, putElem_wp]
        · rfl
      | hol e o l j' b =>
        simp only [AV.upd, UpdP]
        split
        · show (_ ∧ _) ↔ _
          simp only [M.wp_bind, ih, putElem_wp]
        · rfl
      | d s x => cases s <;> rfl
      | _ => simp only [AV.upd, UpdP]; rfl

theorem getP_wp {C : Orc} {q : Pl} {st : St} {k : AV → St → Prop} : (getPl q).wp C st k ↔ ((M.rd q.r.k q.r.s fun s => (s.at q.r.bx).part q.p.reverse) : M AV).wp C st k := by
  simp only [getPl, M.wp, AV.force_eq, GetP, partP_wp]

theorem put_wp {C : Orc} {q : Pl} {u v : AV} {st : St} {k : AV → St → Prop} : ((M.put q u (.pure v)) : M AV).wp C st k ↔ ((M.rd q.r.k q.r.s fun s => (AV.upd u q.p.reverse (s.at q.r.bx)).bind fun w => .wr q.r.k q.r.s (s.put q.r.bx w) (.pure v)) : M AV).wp C st k := by
  simp only [M.wp, PutP, M.wp_bind, updP_wp]

theorem lookP_wp {C : Orc} {q : Pl} {st : St} {k : AV → St → Prop} : (lookPl q).wp C st k ↔ ((M.rd q.r.k q.r.s fun s => ((s.at q.r.bx).part q.p.reverse).bind fun v =>
    if v.isBad then .fail else if v.hasOwn && !(s.flag q.r.bx) then .fail else .pure (viewOf q v)) : M AV).wp C st k := by
  simp only [lookPl, M.wp, AV.force_eq, LookP, M.wp_bind, partP_wp, St.getK_eq]
  cases st.get q.r.k q.r.s with
  | none => rfl
  | some s =>
    simp only
    rw [PartP_iff, PartP_iff (K := fun a => _)]
    refine exists_congr fun v => and_congr_right fun _ => ?_
    generalize v.isBad = b1
    generalize (v.hasOwn && !(s.flag q.r.bx)) = b2
    cases b1 <;> cases b2 <;> exact Iff.rfl

def Stp.isIx : Stp → Bool
  | .ix _ _ => true
  | _ => false

def ixIn (p : List Stp) : Bool := p.any Stp.isIx

/-- The place lies in memory. -/
def Pl.mem (q : Pl) : Bool := ixIn q.p || q.r.bx

theorem Pl.mem_old (q : Pl) : q.mem = (q.r.bx || ixIn q.p.reverse) := by
  simp only [Pl.mem, ixIn, List.any_reverse]
  exact Bool.or_comm _ _

/-- The zero value of a shape; 'nest': slices inside slices are owned too. -/
def Sh.low (nest : Bool) (s : Sh) : Ow := if nest then s.full else .fz

def zeroAV (nest : Bool) : Sh → AV
  | .sl e => .own e (e.low nest) []
  | .pair a b => .pair (zeroAV nest a) (zeroAV nest b)
  | .unit => .unit
  | s => .d s s.dflt

/-! ### Operands -/

def constAV : Value → AV
  | .int k n => .d (.int k) n
  | .bool b => .d .bool b
  | .string s => .d .str s
  | .slice none 0 0 => .nils
  | _ => .undef

/-- An operand as it is, owned slices included (they are not to be handed on). -/
def rawOp : Operand → M AV
  | .tmp t => getPl ⟨⟨0, t, false⟩, []⟩
  | .const v => .pure (constAV v)
  | .func f => .pure (.d (.fn f .unit) ())
  | .global _ => .fail

theorem rawOp_wp {C : Orc} {t : Nat} {st : St} {k : AV → St → Prop} : (rawOp (.tmp t)).wp C st k ↔ ((M.rd 0 t fun s => .pure s.v) : M AV).wp C st k := by
  simp only [rawOp, getP_wp]; rfl

/-- An operand as a copy. -/
def viewOp : Operand → M AV
  | .tmp t => .hd t fun o => match o with
    | some e => .pure (.vw ⟨⟨0, t, false⟩, []⟩ e)
    | none => lookPl ⟨⟨0, t, false⟩, []⟩
  | o => rawOp o

/-- An operand for good: what a slot owns leaves it. -/
def takeOp : Operand → M AV
  | .tmp t => .rd 0 t fun s => if s.v.hasOwn then .wr 0 t { s with v := .undef } (.pure s.v) else .pure s.v
  | o => rawOp o

def AV.isTup : AV → Bool
  | .tup _ => true
  | _ => false

/-- Is the operand a bundle of results (which is handed on whole)? -/
def isTupOp : Operand → M Bool
  | .tmp t => .hd t fun o => match o with
    | some _ => .pure false
    | none => .rd 0 t fun s => .pure s.v.isTup
  | _ => .pure false

/-- The value of a type: a bare nil becomes an owned, empty slice. -/
def typed (nest : Bool) (s : Option Sh) : AV → M AV
  | .nils => match s with
    | some (.sl e) => .pure (.own e (e.low nest) [])
    | _ => .fail
  | v => .pure v

/-- Into a temporary: where it owns, no view of it may be about. -/
def putT (t : Nat) (v : AV) : M Unit := .rd 0 t fun s =>
  if v.hasOwn then (if s.fv then .fail else .wr 0 t { s with v := v } (.pure ())) else .wr 0 t { s with v := v } (.pure ())

/-- Into a variable. -/
def putV (t : Nat) (v : AV) : M Unit :=
  if v.hasOwn then .scr t false [] (.rd 0 t fun s => .wr 0 t { s with v := v.scrub ⟨0, t, false⟩ [], fv := true } (.pure ()))
  else .rd 0 t fun s => .wr 0 t { s with v := v } (.pure ())

/-- The data that a value holds, by reading. -/
def AV.data : AV → M AV
  | .d s x => .pure (.d s x)
  | .own e _ l => .pure (.d (.sl e) l)
  | .vw q e => (getPl q).bind fun
    | .own e' _ l => if h : e' = e then .pure (.d (.sl e) (castDen (congrArg Sh.sl h) l)) else .fail
    | _ => .fail
  | .sub q e lo n => (getPl q).bind fun
    | .own e' _ l => if h : e' = e then .grd (lo + n ≤ l.length)  (.pure (.d (.sl e) ((castDen (congrArg Sh.sl h) l).drop lo |>.take n))) else .fail
    | _ => .fail
  | .pair a b => a.data.bind fun x => b.data.bind fun y =>
    match x, y with
    | .d s u, .d t v => .pure (.d (.pair s t) (u, v))
    | _, _ => .fail
  | .unit => .pure (.d .unit ())
  | .dp s x => .pure (.d (.ptr s) (some x))
  | _ => .fail

/-! ### Scalars -/

def maxInt : Int := 9223372036854775807

def cmpAV (op : BinOp) (x y : Int) : Option Bool :=
  match op with
  | .eql => some (x == y)
  | .neq => some (x != y)
  | .lss => some (decide (x < y))
  | .leq => some (decide (x ≤ y))
  | .gtr => some (decide (x > y))
  | .geq => some (decide (x ≥ y))
  | _ => none

def intAV (op : BinOp) (k : IntKind) (x y : Int) : M AV :=
  match op with
  | .add => .pure (.d (.int k) (k.wrap (x + y)))
  | .sub => .pure (.d (.int k) (k.wrap (x - y)))
  | .mul => .pure (.d (.int k) (k.wrap (x * y)))
  | .quo => .grd (y ≠ 0)  (.pure (.d (.int k) (k.wrap (x.tdiv y))))
  | .rem => .grd (y ≠ 0)  (.pure (.d (.int k) (x.tmod y)))
  | .and => .pure (.d (.int k) (k.wrap (BitVec.ofInt k.bits x &&& BitVec.ofInt k.bits y).toNat))
  | .or => .pure (.d (.int k) (k.wrap (BitVec.ofInt k.bits x ||| BitVec.ofInt k.bits y).toNat))
  | .xor => .pure (.d (.int k) (k.wrap (BitVec.ofInt k.bits x ^^^ BitVec.ofInt k.bits y).toNat))
  | .andNot => .pure (.d (.int k) (k.wrap (BitVec.ofInt k.bits x &&& ~~~BitVec.ofInt k.bits y).toNat))
  | _ => match cmpAV op x y with
    | some b => .pure (.d .bool b)
    | none => .fail

def shiftAV (op : BinOp) (k : IntKind) (x y : Int) : M AV :=
  match op with
  | .shl => .grd (0 ≤ y)  (.pure (.d (.int k) (k.wrap (x * 2 ^ (min y.toNat k.bits)))))
  | .shr => .grd (0 ≤ y)  (.pure (.d (.int k) (x.fdiv (2 ^ (min y.toNat k.bits)))))
  | _ => .fail

def strAV (op : BinOp) (x y : ByteArray) : M AV :=
  match op with
  | .add => .grd (((x.size + y.size : Nat) : Int) ≤ maxInt)  (.pure (.d .str (x ++ y)))
  | .eql => .pure (.d .bool (x.toList == y.toList))
  | .neq => .pure (.d .bool (!(x.toList == y.toList)))
  | .lss => .pure (.d .bool (Op.bytesLess x.toList y.toList))
  | .leq => .pure (.d .bool (Op.bytesLess x.toList y.toList || x.toList == y.toList))
  | .gtr => .pure (.d .bool (!(Op.bytesLess x.toList y.toList || x.toList == y.toList)))
  | .geq => .pure (.d .bool (!Op.bytesLess x.toList y.toList))
  | _ => .fail

def binAV (op : BinOp) : AV → AV → M AV
  | .d (.int k) x, .d (.int k') y => match op with
    | .shl | .shr => shiftAV op k x y
    | _ => if k = k' then intAV op k x y else .fail
  | .d .str x, .d .str y => strAV op x y
  | .d .bool x, .d .bool y => match op with
    | .eql => .pure (.d .bool (x == y))
    | .neq => .pure (.d .bool (!(x == y)))
    | _ => .fail
  | _, _ => .fail

def unAV (op : UnOp) : AV → M AV
  | .d (.int k) x => match op with
    | .neg => .pure (.d (.int k) (k.wrap (0 - x)))
    | _ => .fail
  | .d .bool b => match op with
    | .not => .pure (.d .bool (!b))
    | _ => .fail
  | _ => .fail

/-! ### Structs and slices -/

/-- The steps to a field of a shape, first step first. -/
def fldPath : Sh → Nat → Option (List Stp)
  | .pair _ _, 0 => some [.l]
  | .pair a b, n + 1 => (fldPath b n).map fun p => .r a.size :: p
  | _, _ => none

def fieldAddrAV (t : Option Sh) (n : Nat) (v : AV) : M AV :=
  (M.ofOption (t.bind fun s => fldPath s n)).bind fun path =>
  match v with
  | .ptr q => if q.mem then (if ixIn q.p then (lookPl q).bind fun _ => .pure (.ptr { q with p := path.reverse ++ q.p }) else (getPl ⟨q.r, [.l]⟩).bind fun
      | .unit => .pure (.ptr { q with p := path.reverse ++ q.p })
      | _ => .fail) else .fail
  | .dp s x => ((AV.d s x).part path).bind fun
    | .d t y => .pure (.dp t y)
    | _ => .fail
  | _ => .fail

def indexAddrAV (t : Option Sh) (i : Int) : AV → M AV
  | .vw q e => if t = some (.sl e) then (getPl q).bind fun
    | .own e' _ l => if e' = e then .grd (0 ≤ i ∧ i < (l.length : Int)) (.pure (.ptr (q.child (.ix i.toNat e.size)))) else .fail
    | .hol e' _ l _ _ => if e' = e then .grd (0 ≤ i ∧ i < (l.length : Int)) (.pure (.ptr (q.child (.ix i.toNat e.size)))) else .fail
    | _ => .fail
    else .fail
  | .sub q e lo n => if t = some (.sl e) then (getPl q).bind fun
    | .own _ _ _ => .grd (0 ≤ i ∧ i < (n : Int)) (.pure (.ptr (q.child (.ix (lo + i.toNat) e.size))))
    | _ => .fail
    else .fail
  | .d (.sl e) l => if t = some (.sl e) then .grd (0 ≤ i ∧ i < (l.length : Int)) (.pure (.dp e (l.getD i.toNat e.dflt))) else .fail
  | _ => .fail

def loadAV : AV → M AV
  | .ptr q => if q.mem then lookPl q else .fail
  | .dp s x => .pure (.d s x)
  | _ => .fail

def AV.isD : AV → Bool
  | .d _ _ => true
  | .dp _ _ => true
  | .pair a b => a.isD && b.isD
  | .unit => true
  | _ => false

def storeAt (v : AV) (q : Pl) : M Unit := .put q v (.pure ())

theorem storeP_wp {C : Orc} {v : AV} {q : Pl} {st : St} {k : Unit → St → Prop} : (storeAt v q).wp C st k ↔ ((M.rd q.r.k q.r.s fun s => (AV.upd v q.p.reverse (s.at q.r.bx)).bind fun u => .wr q.r.k q.r.s (s.put q.r.bx u) (.pure ())) : M Unit).wp C st k := by
  simp only [storeAt, M.wp, PutP, M.wp_bind, updP_wp]

def Pl.badPlace (q : Pl) : Bool := if q.r.bx then q.p.getLast? != some (.r 0) else q.p.isEmpty

def storeAV (v : AV) : AV → M Unit
  | .ptr q => .br (q.badPlace || !q.mem || v.isBad || v.size == 0) .fail
    (if v.hasOwn then (if q.r.k = 0 then M.scr q.r.s q.r.bx q.p (storeAt (v.scrub ⟨0, q.r.s, q.r.bx⟩ q.p) q) else .fail)
    else .br (v.isD || q.r.k == 0) (storeAt v q) .fail)
  | _ => .fail

def lenAV : AV → M AV
  | .d .str x => .pure (.d (.int .i64) (x.size : Int))
  | .d (.sl _) l => .pure (.d (.int .i64) (l.length : Int))
  | .own _ _ l => .pure (.d (.int .i64) (l.length : Int))
  | .vw q _ => (getPl q).bind fun
    | .own _ _ l => .pure (.d (.int .i64) (l.length : Int))
    | _ => .fail
  | .sub q _ _ n => (getPl q).bind fun
    | .own _ _ _ => .pure (.d (.int .i64) (n : Int))
    | _ => .fail
  | .nils => .pure (.d (.int .i64) 0)
  | _ => .fail

/-- A list of bytes as a text. -/
def toTxt (l : List Int) : ByteArray := l.foldl (fun r n => r.push (UInt8.ofNat n.toNat)) ByteArray.empty
def txtAV : AV → M AV
  | .d (.sl (.int .u8)) l => .pure (.d .str (toTxt l))
  | .own (.int .u8) .fz l => .pure (.d .str (toTxt l))
  | .vw q (.int .u8) => (getPl q).bind fun
    | .own (.int .u8) .fz l => .pure (.d .str (toTxt l))
    | _ => .fail
  | _ => .fail

/-- Append to a slice that is taken: 'e', 'o', 'l' what it holds, 'more' what comes behind. -/
def appendTo (bytes : Nat) (e : Sh) (o : Ow) (l : List e.den) (more : AV) : M AV :=
  match more with
  | .d (.sl e') l' => if h : e' = e ∧ o = .fz then .grd ((l.length + l'.length) * bytes ≤ 140737488355328 ∧ l.length + l'.length ≤ maxLen)  (.pure (.own e o (l ++ castDen (congrArg Sh.sl h.1) l'))) else .fail
  | .own e' o' l' => if h : e' = e ∧ o' = o then .grd ((l.length + l'.length) * bytes ≤ 140737488355328 ∧ l.length + l'.length ≤ maxLen)  (.pure (.own e o (l ++ castDen (congrArg Sh.sl h.1) l'))) else .fail
  | .nils => .pure (.own e o l)
  | _ => .fail

end Go.Proofs.Ytlndfmmigndgeaa.Ev

/- The evaluator over operations and code. -/
namespace Go.Proofs.Ytlndfmmigndgeaa.Ev
open Go

/-- What is told of types, and of functions: by which mode they are called. -/
structure Env where
  sh : TypeId → Option Sh
  bytes : TypeId → Nat
  nest : Bool
  inl : Nat → Bool
  tup : Nat → Bool
  one : TypeId → Bool      -- types of one cell without a shape (pointers, functions)
  arr : TypeId → Option (Nat × Sh)      -- arrays of data of one cell each

/-- Cells of a type, and whether it is a struct. -/
def Env.sz (E : Env) (t : TypeId) : Option (Nat × Bool) :=
  match E.sh t with
  | some s => some (s.size, s.isAgg)
  | none => if E.one t then some (1, false) else none

def dstT (o : Oper) (v : AV) : M Unit :=
  match o.dst with
  | some t => putT t v
  | none => .pure ()

/-- A new box at the operation's slot: what it holds lies behind a pair's empty left part. -/
def newBox (o : Oper) (v : AV) : M Unit :=
  match o.dst with
  | some t => if v.isBad then .fail else .rd 0 t fun s => if s.fb then .fail else .wr 0 t { s with v := .ptr ⟨⟨0, t, true⟩, [.r 0]⟩, b := .pair .unit v, fb := true } (.pure ())
  | none => .fail

/-- What a slice inside keeps of its ownership. -/
def Pk.low (nest : Bool) (w : Pk) : Ow := if nest then w.o else .fz

/-- The parts of a literal slice. -/
def elems (nest : Bool) (e : Sh) : List AV → M (List e.den)
  | [] => .pure []
  | v :: vs => match v.pack with
    | some w => if h : w.s = e ∧ w.low nest = e.low nest then (elems nest e vs).bind fun r => .pure (castDen h.1 w.x :: r) else .fail
    | none => .fail

def takeAll (E : Env) (ty : TypeId → Option Sh) : List (Nat × Operand) → M (List AV)
  | [] => .pure []
  | (_, x) :: r => (takeOp x).bind fun v => (takeAll E ty r).bind fun vs => .pure (v :: vs)

/-- A field's value. -/
def fieldV (nest : Bool) (a : Sh) : AV → Option AV
  | .nils => match a with
    | .sl e => some (zeroAV nest (.sl e))
    | _ => none
  | v => if v.size = a.size ∧ v.isBad = false then some v else none

/-- A struct out of given fields (in order, each told once or left out). -/
def fields (nest : Bool) : Sh → Nat → List (Nat × AV) → Option AV
  | .pair a b, i, (j, v) :: r => if j = i then (match fieldV nest a v, fields nest b (i + 1) r with | some x, some y => some (.pair x y) | _, _ => none)
    else (match fields nest b (i + 1) ((j, v) :: r) with | some y => some (.pair (zeroAV nest a) y) | none => none)
  | .pair a b, i, [] => match fields nest b (i + 1) [] with | some y => some (.pair (zeroAV nest a) y) | none => none
  | .unit, _, [] => some .unit
  | _, _, _ => none

def takeParts : List (Nat × Operand) → M (List (Nat × AV))
  | [] => .pure []
  | (i, x) :: r => (takeOp x).bind fun v => (takeParts r).bind fun vs => .pure ((i, v) :: vs)

def viewArgs : List Operand → M (List AV)
  | [] => .pure []
  | x :: r => (rawOp x).bind fun v => (viewArgs r).bind fun vs => .pure (v :: vs)

def lookArgs : List Operand → M (List AV)
  | [] => .pure []
  | x :: r => (viewOp x).bind fun v => (lookArgs r).bind fun vs => .pure (v :: vs)

/-- What temporaries own may be viewed from now on. -/
def flagOps : List Operand → M Unit
  | [] => .pure ()
  | .tmp t :: r => .rd 0 t fun s => if s.v.hasOwn && !s.fv then .wr 0 t { s with fv := true } (flagOps r) else flagOps r
  | _ :: r => flagOps r

def dataArgs : List AV → M (List AV)
  | [] => .pure []
  | v :: r => v.data.bind fun x => (dataArgs r).bind fun xs => .pure (x :: xs)

/-- Take the slice at a place. -/
def takePl (q : Pl) : M AV := if q.r.k ≠ 0 then .fail else (getPl q).bind fun v => .put ⟨⟨0, q.r.s, q.r.bx⟩, q.p⟩ .undef (.pure v)

/-- What is handed back: views of own places are taken out of them. -/
def AV.resolve : AV → M AV
  | .vw q e => if q.r.k = 0 then (takePl q).bind fun
    | .own e' o l => if e' = e then .pure (.own e' o l) else .fail
    | _ => .fail
    else .pure (.vw q e)
  | .pair a b => a.resolve.bind fun x => b.resolve.bind fun y => .pure (.pair x y)
  | v => .pure v

/-- The parts of a literal slice; views of own places are taken out of them. -/
def takePartsV : List (Nat × Operand) → M (List (Nat × AV))
  | [] => .pure []
  | (i, x) :: r => (takeOp x).bind fun v => v.resolve.bind fun v => (takePartsV r).bind fun vs => .pure ((i, v) :: vs)

/-- What is appended, if its elements own what they hold: it leaves its place. -/
def ownMore : AV → M AV
  | .vw q e1 => (getPl q).bind fun
    | .own _ o _ => if o = .fz then .pure (.vw q e1) else (takePl q).bind fun
      | .own e3 o3 l3 => if e3 = e1 then .pure (.own e3 o3 l3) else .fail
      | _ => .fail
    | _ => .fail
  | v => .pure v

/-- What is appended, laid open. -/
def moreAV (e : Sh) : AV → M AV
  | .vw q e1 => (getPl q).bind fun
    | .own e2 o l => if e1 = e ∧ e2 = e ∧ o = .fz then .pure (.d (.sl e2) l) else .fail
    | _ => .fail
  | .sub q e1 lo n => (getPl q).bind fun
    | .own e2 o l => if e1 = e ∧ e2 = e ∧ o = .fz then .pure (.d (.sl e2) ((l.drop lo).take n)) else .fail
    | _ => .fail
  | .d s l => if s = .sl e then .pure (.d s l) else .fail
  | .own e1 o l => if e1 = e then .pure (.own e1 o l) else .fail
  | .nils => .pure .nils
  | _ => .fail

def sliceHi (hi : Option AV) (n : Nat) (g : Int → M AV) : M AV :=
  match hi with
  | none => g n
  | some (.d (.int _) h) => .grd (0 ≤ h ∧ h ≤ (n : Int)) (g h)
  | _ => .fail

def sliceLo (lo : Option AV) (h : Int) (g : Nat → Nat → M AV) : M AV :=
  match lo with
  | none => g 0 h.toNat
  | some (.d (.int _) l) => .grd (0 ≤ l ∧ l ≤ h) (g l.toNat h.toNat)
  | _ => .fail

def sliceBounds (lo hi : Option AV) (n : Nat) (g : Nat → Nat → M AV) : M AV :=
  sliceHi hi n fun h => sliceLo lo h g

def sliceAV (t : Option Sh) (lo hi : Option AV) : AV → M AV
  | .d .str x => if t = some .str then sliceBounds lo hi x.size fun l h => .pure (.d .str (x.extract l h)) else .fail
  | .d (.sl e) x => if t = some (.sl e) then sliceBounds lo hi x.length fun l h => .pure (.d (.sl e) ((x.drop l).take (h - l))) else .fail
  | .vw q e => if t = some (.sl e) then (getPl q).bind fun
    | .own e' _ x => if e' = e then sliceBounds lo hi x.length fun l h => .pure (.sub q e l (h - l)) else .fail
    | _ => .fail
    else .fail
  | .sub q e lo' n => if t = some (.sl e) then (getPl q).bind fun
    | .own e' _ _ => if e' = e then sliceBounds lo hi n fun l h => .pure (.sub q e (lo' + l) (h - l)) else .fail
    | _ => .fail
    else .fail
  | _ => .fail

/-- What is sliced: a slot's own slice by its place. -/
def sliceOp (x : Operand) : M AV := (rawOp x).bind fun v => if v.hasOwn then (flagOps [x]).bind fun _ => viewOp x else .pure v

def optOp : Option Operand → M (Option AV)
  | none => .pure none
  | some x => (rawOp x).bind fun v => .pure (some v)

/-- A chain of results laid open to its end. -/
def unpackC : (s : Sh) → Ow → s.den → AV
  | .pair a b, .pr o1 o2, x => .pair (unpack a o1 x.1) (unpackC b o2 x.2)
  | .pair a b, _, x => .pair (unpack a .fz x.1) (unpackC b .fz x.2)
  | .unit, _, _ => .unit
  | s, o, x => unpack s o x

def unpackT (t : Bool) (r : Pk) : AV := if t then unpackC r.s r.o r.x else unpack r.s r.o r.x
def asTup (t : Bool) (v : AV) : AV := if t then .tup v else v

/-- Does a type have the length that is told? -/
def lenTy (t : Option Sh) (v : AV) : Bool :=
  match t, v with
  | some .str, .d .str _ => true
  | some (.sl _), .d .str _ => false
  | some (.sl _), _ => true
  | _, _ => false

/-- Data in a chain. -/
def chainAV : List AV → AV
  | [] => .d .unit ()
  | .d s x :: r => match chainAV r with
    | .d t y => .d (.pair s t) (x, y)
    | _ => .undef
  | _ => .undef

/-- The data of a chain. -/
def unchain : (s : Sh) → s.den → Option (List AV)
  | .unit, _ => some []
  | .pair a b, x => match unchain b x.2 with
    | some r => some (.d a x.1 :: r)
    | none => none
  | _, _ => none

/-- A box of data that functions hold: it is never written again. -/
def freezeBox (t : Nat) : M Unit := .rd 0 t fun s => match s with
  | ⟨.ptr ⟨⟨0, t', true⟩, [.r 0]⟩, .pair .unit v, _, _⟩ => if t' = t ∧ v.isD = true then v.data.bind fun d => (match d with
    | .d sh x => .scr t true [] (.rd 0 t fun s2 => .wr 0 t ⟨.dp sh x, .undef, s2.fv, s2.fb⟩ (.pure ()))
    | _ => .fail) else .pure ()
  | _ => .pure ()

def freezeAll : List Operand → M Unit
  | [] => .pure ()
  | .tmp t :: r => (freezeBox t).bind fun _ => freezeAll r
  | _ :: r => freezeAll r

/-- What a number of zeros is appended to, taken. -/
def zTake (e : Sh) (x : Operand) : AV → M AV
  | .own _ _ _ => takeOp x
  | .vw q e1 => if e1 = e then takePl q else .fail
  | .nils => .pure (.own e .fz [])
  | _ => .fail
def zNum (E : Env) (o : Oper) (t : TypeId) (e1 : Sh) (l : List e1.den) : AV → M Unit
  | .d (.int .i64) n => .grd (0 ≤ n ∧ (l.length + n.toNat) * E.bytes t ≤ 140737488355328 ∧ l.length + n.toNat ≤ maxLen) (dstT o (.own e1 .fz (l ++ List.replicate n.toNat e1.dflt)))
  | _ => .fail
def zFin (E : Env) (o : Oper) (t : TypeId) (e : Sh) (u : AV) : AV → M Unit
  | .own e1 .fz l => if e1 = e then zNum E o t e1 l u else .fail
  | _ => .fail

def callAV (E : Env) (o : Oper) (c : Call) : M Unit :=
  match c.callee with
  | .builtin .len => (match c.args, c.argTypes with | ⟨[x]⟩, ⟨[t]⟩ => (rawOp x).bind fun v => if lenTy (E.sh t) v then (lenAV v).bind (dstT o) else .fail | _, _ => .fail)
  | .builtin .append =>
    (match c.args, c.argTypes with
    | ⟨[x, y]⟩, ⟨[t, t']⟩ => if t' = t then (match E.sh t with
      | some (.sl e) => (rawOp x).bind fun v => ((takeOp y).bind ownMore).bind fun w => (moreAV e w).bind fun more => (match v with
        | .own _ _ _ => takeOp x
        | .vw q e1 => if e1 = e then takePl q else .fail
        | .nils => .pure (.own e (e.low E.nest) [])
        | _ => .fail).bind fun
        | .own e1 o1 l => if e1 = e then (appendTo (E.bytes t) e1 o1 l more).bind (dstT o) else .fail
        | _ => .fail
      | _ => .fail) else (match E.sh t, E.sh t' with
      | some (.sl e), some (.int .i64) => (rawOp x).bind fun v => (rawOp y).bind fun u => (zTake e x v).bind (zFin E o t e u)
      | _, _ => .fail)
    | _, _ => .fail)
  | .builtin .max => (match c.args with
    | ⟨[x, y]⟩ => (rawOp x).bind fun v => (rawOp y).bind fun w => (match v, w with
      | .d (.int k) m, .d (.int k') n => if k = k' then dstT o (.d (.int k) (if n > m then n else m)) else .fail
      | _, _ => .fail)
    | _ => .fail)
  | .builtin .min => (match c.args with
    | ⟨[x, y]⟩ => (rawOp x).bind fun v => (rawOp y).bind fun w => (match v, w with
      | .d (.int k) m, .d (.int k') n => if k = k' then dstT o (.d (.int k) (if n < m then n else m)) else .fail
      | _, _ => .fail)
    | _ => .fail)
  | .value (.func f) => if E.inl f then (flagOps c.args.toList).bind fun _ => (lookArgs c.args.toList).bind fun vs => .inl f vs fun r => dstT o (asTup (E.tup f) r)
    else (viewArgs c.args.toList).bind fun vs => (dataArgs vs).bind fun ds => .call f ds (vs.all AV.isD) fun r => dstT o (asTup (E.tup f) (unpackT (E.tup f) r))
  | .value (.tmp t) => (rawOp (.tmp t)).bind fun u => (match u with
    | .d (.fn f s) x => (M.ofOption (unchain s x)).bind fun cs => (viewArgs c.args.toList).bind fun vs => (dataArgs vs).bind fun ds => .call f (ds ++ cs) (vs.all AV.isD) fun r => dstT o (asTup (E.tup f) (unpackT (E.tup f) r))
    | _ => .fail)
  | _ => .fail

/-- A field's shape. -/
def fldSh : Sh → Nat → Option Sh
  | .pair a _, 0 => some a
  | .pair _ b, n + 1 => fldSh b n
  | _, _ => none

/-- What goes into an element of a list is taken out of its own place. -/
def stRes : AV → AV → M AV
  | .ptr q, v => if ixIn q.p then v.resolve else .pure v
  | _, v => .pure v

/-- A field of an owned temporary leaves it. -/
def takeFld (E : Env) (o : Oper) (t : TypeId) (s f : Nat) : M Unit :=
  (M.ofOption ((E.sh t).bind fun s => (fldPath s f).bind fun p => (fldSh s f).map fun a => (p, a))).bind fun pa =>
    (takePl ⟨⟨0, s, false⟩, pa.1.reverse⟩).bind fun u => if u.size = pa.2.size ∧ u.isAgg = pa.2.isAgg ∧ u.isBad = false then dstT o u else .fail

/-- Arrays of data, as chains of pairs. -/
def arrSh (e : Sh) : Nat → Sh
  | 0 => .unit
  | n + 1 => .pair e (arrSh e n)
def arrD {e : Sh} : (l : List e.den) → (arrSh e l.length).den
  | [] => ()
  | x :: l => (x, arrD l)
def arrAt (e : Sh) : (n : Nat) → (arrSh e n).den → Nat → e.den
  | 0, _, _ => e.dflt
  | _ + 1, x, 0 => x.1
  | n + 1, x, i + 1 => arrAt e n x.2 i
def rawParts : List (Nat × Operand) → M (List (Nat × AV))
  | [] => .pure []
  | (i, x) :: r => (rawOp x).bind fun v => (rawParts r).bind fun vs => .pure ((i, v) :: vs)
def arrEls (e : Sh) : List (Nat × AV) → Option (List e.den)
  | [] => some []
  | (_, .d s x) :: r => if h : s = e then (arrEls e r).map fun l => castDen h x :: l else none
  | _ => none
def buildArr (E : Env) (o : Oper) (t : TypeId) (ps : List (Nat × Operand)) : M Unit :=
  match E.arr t with
  | some (n, e) => (rawParts ps).bind fun vs => (M.ofOption (arrEls e vs)).bind fun l => if vs.map (·.1) = List.range n then dstT o (.d (arrSh e l.length) (arrD l)) else .fail
  | none => .fail
def indexArr (E : Env) (o : Oper) (t : TypeId) (s : Sh) (y : s.den) (i : Int) : M Unit :=
  match E.arr t with
  | some (n, e) => if h : s = arrSh e n then .grd (0 ≤ i ∧ i < (n : Int)) (dstT o (.d e (arrAt e n (castDen h y) i.toNat))) else .fail
  | none => .fail

def evOp (E : Env) (o : Oper) : M Unit :=
  match o.op with
  | .move x => (isTupOp x).bind fun b => if b then (takeOp x).bind (dstT o) else (viewOp x).bind (dstT o)
  | .assign x => (takeOp x).bind fun v => (typed E.nest (E.sh o.type) v).bind fun v => (match o.dst with | some t => putV t v | none => .fail)
  | .pick c a b => (rawOp c).bind fun
    | .d .bool t => .br t ((viewOp a).bind (dstT o)) ((viewOp b).bind (dstT o))
    | _ => .fail
  | .alloc t => (match E.sh t with | some s => newBox o (zeroAV E.nest s) | none => .fail)
  | .box t x => (takeOp x).bind fun v => (typed E.nest (E.sh t) v).bind (newBox o)
  | .build t ps => (match E.sh t with
    | some s => (takeParts ps.toList).bind fun vs => (M.ofOption (fields E.nest s 0 vs)).bind (dstT o)
    | none => buildArr E o t ps.toList)
  | .buildSlice t n ps => (match E.sh t with
    | some (.sl e) => (takePartsV ps.toList).bind fun vs => if vs.length = n ∧ vs.map (·.1) = List.range n ∧ n * e.size ≤ 16777216 then (elems E.nest e (vs.map (·.2))).bind fun l => dstT o (.own e (e.low E.nest) l) else .fail
    | _ => .fail)
  | .load t a => (rawOp a).bind fun v => (loadAV v).bind fun x => if E.sz t = some (x.size, x.isAgg) then dstT o x else .fail
  | .store t a x => if o.dst.isSome then .fail else (rawOp a).bind fun p => (takeOp x).bind fun v => (typed E.nest (E.sh t) v).bind fun v => (stRes p v).bind fun v => if E.sz t = some (v.size, v.isAgg) then storeAV v p else .fail
  | .nilCheck x => (rawOp x).bind fun
    | .ptr q => if q.mem then (lookPl q).bind fun _ => dstT o (.ptr q) else .fail
    | .dp s y => dstT o (.dp s y)
    | .fn f .unit => dstT o (.fn f .unit)
    | _ => .fail
  | .binOp op t x y _ => (rawOp x).bind fun v => (rawOp y).bind fun w => (match v with
    | .d .bool _ => if E.sh t = some .bool then (binAV op v w).bind (dstT o) else .fail
    | _ => (binAV op v w).bind (dstT o))
  | .unOp op _ x => (rawOp x).bind fun v => (unAV op v).bind (dstT o)
  | .convert f t x => if (E.sh f).isSome then (rawOp x).bind fun v => (match v with
    | .d (.int _) n => (match E.sh t with | some (.int k) => dstT o (.d (.int k) (k.wrap n)) | _ => .fail)
    | .d .str s => if E.sh t = some .str then dstT o (.d .str s) else .fail
    | v => if E.sh f = some (.sl (.int .u8)) ∧ E.sh t = some .str then (txtAV v).bind (dstT o) else .fail) else .fail
  | .slice t x lo hi none => (sliceOp x).bind fun v => (optOp lo).bind fun l => (optOp hi).bind fun h => (sliceAV (E.sh t) l h v).bind (dstT o)
  | .fieldAddr t x f => (rawOp x).bind fun v => (fieldAddrAV (E.sh t) f v).bind (dstT o)
  | .field t x f => (rawOp x).bind fun v => if v.hasOwn || !v.isAgg then (match x, v.isAgg with | .tmp s, true => takeFld E o t s f | _, _ => .fail) else (M.ofOption ((E.sh t).bind fun s => (fldPath s f).bind fun p => (fldSh s f).map fun a => (p, a))).bind fun pa =>
    (v.part pa.1).bind fun u => if u.size = pa.2.size ∧ u.isAgg = pa.2.isAgg ∧ u.isBad = false then dstT o u else .fail
  | .indexAddr t x i => (rawOp x).bind fun v => (rawOp i).bind fun
    | .d (.int _) n => (indexAddrAV (E.sh t) n v).bind (dstT o)
    | _ => .fail
  | .index t x i => (rawOp x).bind fun v => (rawOp i).bind fun w => (match v, w with
    | .d .str s, .d (.int _) n => if E.sh t = some .str then .grd (0 ≤ n ∧ n < (s.size : Int)) (dstT o (.d (.int .u8) (((s[n.toNat]?).getD 0).toNat : Int))) else .fail
    | .d s y, .d (.int _) n => indexArr E o t s y n
    | _, _ => .fail)
  | .makeSlice t l c => (match E.sh t with
    | some (.sl e) => (rawOp l).bind fun v => (rawOp c).bind fun w => (match v, w with
      | .d (.int .i64) n, .d (.int .i64) m => .grd (0 ≤ n ∧ n ≤ m ∧ m * (E.bytes t : Int) ≤ 140737488355328 ∧ m ≤ maxInt) (dstT o (.own e (e.low E.nest) (List.replicate n.toNat e.dflt)))
      | _, _ => .fail)
    | _ => .fail)
  | .extract x i => (match x with
    | .tmp t => .ext t i fun v => dstT o v
    | _ => .fail)
  | .call c => callAV E o c
  | .makeFunc (.func f) ⟨[]⟩ cs => (freezeAll cs.toList).bind fun _ => (viewArgs cs.toList).bind fun vs => if vs.all AV.isD then (dataArgs vs).bind fun ds => (match chainAV ds with
    | .d s x => dstT o (.d (.fn f s) x)
    | _ => .fail) else .fail
  | _ => .fail

/-- The slots of operations in turn; a guard decides whether one runs. -/
def evOps (E : Env) (ops : List Oper) : List Oper → M Unit
  | [] => .pure ()
  | o :: r => match o.guard with
    | none => (evOp E o).bind fun _ => evOps E ops r
    | some (j, want) => match (ops[j]?).bind (·.dst) with
      | some t => .rd 0 t fun s => (match s.v with
        | .d .bool b => .br (b == want) (.wr 0 t { s with v := .d .bool want } ((evOp E o).bind fun _ => evOps E ops r)) (.wr 0 t { s with v := .d .bool (!want) } ((dstT o (.tup .unit)).bind fun _ => evOps E ops r))
        | .tup .unit => (dstT o (.tup .unit)).bind fun _ => evOps E ops r
        | _ => .fail)
      | none => .fail

/-! ### Regions that draw their order -/

/-- One operation, its guard ahead of it. -/
def evG (E : Env) (ops : List Oper) (o : Oper) : M Unit :=
  match o.guard with
  | none => evOp E o
  | some (j, want) => match (ops[j]?).bind (·.dst) with
    | some t => .rd 0 t fun s => (match s.v with
      | .d .bool b => .br (b == want) (evOp E o) (dstT o (.tup .unit))
      | .tup .unit => dstT o (.tup .unit)
      | _ => .fail)
    | none => .fail

/-- What stands ahead of an operation, by bits. -/
def maskOf (ms : List Nat) (o : Oper) : Nat :=
  o.after.toList.foldl (fun s e => cond (Region.binds .any e) (s ||| 2 ^ e.on ||| ms.getD e.on 0) s) 0

def mkMasks : List Oper → List Nat → List Nat
  | [], ms => ms
  | o :: r, ms => mkMasks r (ms ++ [maskOf ms o])

def masksOk (ms : List Nat) : Nat → List Oper → Bool
  | _, [] => true
  | i, o :: r => Nat.beq (ms.getD i 0) (maskOf ms o) && o.after.toList.all (fun e => !Region.binds .any e || Nat.blt e.on i) && masksOk ms (i + 1) r

/-- Each operation stands behind those that it waits for, by ranks. -/
def rankOk (md : Region.Mode) (rk : Nat → Nat) (n : Nat) : Nat → List Oper → Bool
  | _, [] => true
  | i, o :: r => o.after.toList.all (fun e => !Region.binds md e || (Nat.blt e.on n && Nat.blt (rk e.on) (rk i))) && rankOk md rk n (i + 1) r

def gcEdge (o : Oper) : Bool := o.after.toList.any fun e => match e.ground with | .gcOnly _ => true | _ => false

/-- The first one in turn whose edges are listed. -/
def topoPick (listed : List Nat) : Nat → List Oper → Option Nat
  | _, [] => none
  | i, o :: r => cond (!listed.contains i && o.after.toList.all (fun e => !Region.binds .gc e || listed.contains e.on)) (some i) (topoPick listed (i + 1) r)

def topo (ops : List Oper) : Nat → List Nat → List Nat
  | 0, l => l
  | n + 1, l => match topoPick l 0 ops with
    | some i => topo ops n (l ++ [i])
    | none => l

def gcRank (ops : List Oper) : Nat → Nat :=
  cond (ops.any gcEdge) (fun i => (topo ops ops.length []).idxOf i) (fun i => i)

def drawOk (ops : List Oper) (ms : List Nat) : Bool :=
  masksOk ms 0 ops && rankOk .text (fun i => i) ops.length 0 ops && rankOk .gc (gcRank ops) ops.length 0 ops

/-- Does a run touch none of the earlier ones that do not stand ahead of it? -/
def fits (m : Nat) (l : Lg) : List (Nat × Lg) → Bool
  | [] => true
  | (j, l') :: r => cond (m.testBit j) (fits m l r) (l'.apart l && fits m l r)

def evDraw (E : Env) (C : Orc) (ops : List Oper) (ms : List Nat) : Nat → List (Nat × Lg) → List Oper → St → (St → Prop) → Prop
  | _, _, [], st, k => k st
  | i, ls, o :: r, st, k => (evG E ops o).wpL C st Lg.nil fun _ st' l => cond (fits (ms.getD i 0) l ls) (evDraw E C ops ms (i + 1) ((i, l) :: ls) r st' k) False

theorem evDraw_mono {E : Env} {C : Orc} {ops : List Oper} {ms : List Nat} : ∀ (r : List Oper) (i : Nat) (ls : List (Nat × Lg)) (st : St) (k k' : St → Prop), (∀ s, k s → k' s) → evDraw E C ops ms i ls r st k → evDraw E C ops ms i ls r st k' := by
  intro r
  induction r with
  | nil => intro i ls st k k' h; exact h _
  | cons o r ih =>
    intro i ls st k k' h
    refine M.wpL_mono _ ?_ _ _
    intro _ s l
    cases fits (ms.getD i 0) l ls <;> simp only [cond_true, cond_false]
    · exact id
    · exact ih _ _ _ _ _ h

inductive Ex where
  | normal | exit (id : Nat) | ret

def goneR (keep : List Nat) (r : Reg) : Bool := r.k == 0 && !keep.contains r.s

/-- Views of slots that are not kept are struck. -/
def AV.strike (keep : List Nat) : AV → AV
  | .vw q e => if goneR keep q.r then .undef else .vw q e
  | .sub q e lo n => if goneR keep q.r then .undef else .sub q e lo n
  | .ptr q => if goneR keep q.r then .undef else .ptr q
  | .pair a b => .pair (a.strike keep) (b.strike keep)
  | .tup a => .tup (a.strike keep)
  | .fn f a => .fn f (a.strike keep)
  | v => v

def gcFrm (keep : List Nat) : Nat → Frm → Frm
  | _, [] => []
  | i, s :: r => (if keep.contains i then { s with v := s.v.strike keep, b := s.b.strike keep } else ⟨.undef, .undef, false, false⟩) :: gcFrm keep (i + 1) r

/-- Slots that are not kept are emptied. -/
def St.gc (keep : List Nat) : St → St
  | [] => []
  | f :: o => gcFrm keep 0 f :: o

/-- What must hold for code to end as told. The loops' live slots are told by 'keep' (by the number of a loop's first region). -/
def loopKey : Code → Nat
  | .region id _ _ => id
  | .seq a _ => loopKey a
  | .block _ b => loopKey b
  | .scope b => loopKey b
  | .loop b => loopKey b
  | .cond _ x _ => loopKey x
  | _ => 0

/-- The least fixed point that a loop is. -/
structure LoopP (B : St → (Ex → St → Prop) → Prop) (st : St) (k : Ex → St → Prop) : Prop where
  all : ∀ I : St → Prop, (∀ s, B s (fun e s' => match e with | .normal => I s' | e => k e s') → I s) → I st

/-- Steps of the telling alone, behind a region: a slot's view takes what it views (n), a box's content is frozen (1000 + n), a slot's value is forgotten (2000 + n). -/
def stealT (t : Nat) : M Unit := (takeOp (.tmp t)).bind fun v => v.resolve.bind fun v => putV t v
def freezeIn (t : Nat) : M Unit := .scr t true [.r 0] (.rd 0 t fun s => match s.b with
  | .pair .unit v => (match v.pack with
    | some w => .wr 0 t { s with b := .pair .unit (.d w.s w.x) } (.pure ())
    | none => .fail)
  | _ => .fail)
def forgetT (t : Nat) : M Unit := .rd 0 t fun s => .wr 0 t { s with v := .undef } (.pure ())
def evGhosts (C : Orc) : List Nat → St → (St → Prop) → Prop
  | [], st, k => k st
  | n :: r, st, k => cond (Nat.ble n 999) ((stealT n).wp C st fun _ st' => evGhosts C r st' k) (cond (Nat.ble n 1999) ((freezeIn (n - 1000)).wp C st fun _ st' => evGhosts C r st' k) ((forgetT (n - 2000)).wp C st fun _ st' => evGhosts C r st' k))
theorem evGhosts_mono (C : Orc) : ∀ (l : List Nat) (st : St) (k k' : St → Prop), (∀ s, k s → k' s) → evGhosts C l st k → evGhosts C l st k' := by
  intro l
  induction l with
  | nil => intro st k k' h hk; exact h _ hk
  | cons n r ih =>
    intro st k k' h
    simp only [evGhosts]
    cases Nat.ble n 999 <;> cases Nat.ble n 1999 <;> simp only [cond_true, cond_false] <;> exact M.wp_mono _ (fun _ s => ih s k k' h) _

def evCode (E : Env) (C : Orc) (keep : Nat → List Nat) : Code → St → (Ex → St → Prop) → Prop
  | .skip, st, k => k .normal st
  | .region id ops false, st, k => (evOps E ops.toList ops.toList).wp C st fun _ st' => evGhosts C (keep (id + 1000000)) st' fun st' => k .normal st'
  | .region id ops true, st, k => cond (drawOk ops.toList (mkMasks ops.toList [])) (evDraw E C ops.toList (mkMasks ops.toList []) 0 [] ops.toList st fun st' => evGhosts C (keep (id + 1000000)) st' fun st' => k .normal st') False
  | .seq a b, st, k => evCode E C keep a st fun e st' => match e with
    | .normal => st'.forceK fun st' => evCode E C keep b st' k
    | e => k e st'
  | .cond c x y, st, k => (rawOp c).wp C st fun v _ => match v with
    | .d .bool b => cond b (evCode E C keep x st k) (evCode E C keep y st k)
    | _ => False
  | .block id b, st, k => evCode E C keep b st fun e st' => match e with
    | .exit j => if j = id then k .normal st' else k (.exit j) st'
    | e => k e st'
  | .loop b, st, k => LoopP (fun s k' => evCode E C keep b s fun e s' => match e with | .normal => k' .normal (s'.gc (keep (loopKey b))) | e => k' e s') (st.gc (keep (loopKey b))) k
  | .exit id, st, k => k (.exit id) st
  | .ret, st, k => k .ret st
  | _, _, _ => False

theorem evCode_mono (E : Env) (C : Orc) (keep : Nat → List Nat) (c : Code) : ∀ (st : St) (k k' : Ex → St → Prop), (∀ e s, k e s → k' e s) → evCode E C keep c st k → evCode E C keep c st k' := by
  induction c with
  | skip => intro st k k' h; exact h _ _
  | region id ops dr =>
    intro st k k' h
    cases dr
    · exact M.wp_mono _ (fun _ _ => evGhosts_mono C _ _ _ _ fun _ => h _ _) _
    · simp only [evCode]
      cases drawOk ops.toList (mkMasks ops.toList []) <;> simp only [cond_true, cond_false]
      · exact fun h => h
      · exact evDraw_mono _ _ _ _ _ _ fun _ => evGhosts_mono C _ _ _ _ fun _ => h _ _
  | seq a b iha ihb =>
    intro st k k' h
    refine iha _ _ _ ?_
    intro e s he
    cases e with
    | normal =>
      have he : s.forceK fun s => evCode E C keep b s k := he
      rw [St.forceK_eq] at he
      show s.forceK fun s => evCode E C keep b s k'
      rw [St.forceK_eq]
      exact ihb _ _ _ h he
    | exit => exact h _ _ he
    | ret => exact h _ _ he
  | cond c x y ihx ihy =>
    intro st k k' h
    refine M.wp_mono _ ?_ _
    intro v s
    split
    · rename_i b
      cases b <;> simp only [cond_true, cond_false]
      · exact ihy _ _ _ h
      · exact ihx _ _ _ h
    · exact id
  | block id b ih =>
    intro st k k' h
    refine ih _ _ _ ?_
    intro e s he
    cases e with
    | normal => exact h _ _ he
    | exit j =>
      simp only at he ⊢
      split
      · rename_i hj; rw [if_pos hj] at he; exact h _ _ he
      · rename_i hj; rw [if_neg hj] at he; exact h _ _ he
    | ret => exact h _ _ he
  | loop b ih =>
    intro st k k' h hl
    refine ⟨fun I hI => hl.all I fun s hs => hI s (ih _ _ _ ?_ hs)⟩
    intro e s' he
    cases e with
    | normal => exact he
    | exit => exact h _ _ he
    | ret => exact h _ _ he
  | exit id => intro st k k' h; exact h _ _
  | ret => intro st k k' h; exact h _ _
  | rangeFunc => intro st k k' h; exact id
  | scope => intro st k k' h; exact id
  | label => intro st k k' h; exact id
  | goto => intro st k k' h; exact id
  | refuse => intro st k k' h; exact id

theorem LoopP.step {B : St → (Ex → St → Prop) → Prop} (mono : ∀ s k k', (∀ e s', k e s' → k' e s') → B s k → B s k') {st : St} {k : Ex → St → Prop}
    (h : B st (fun e s' => match e with | .normal => LoopP B s' k | e => k e s')) : LoopP B st k := by
  refine ⟨fun I hI => hI _ (mono _ _ _ ?_ h)⟩
  intro e s' hk
  cases e with
  | normal => exact hk.all I hI
  | exit id => exact hk
  | ret => exact hk

/-- A loop over a family of states, with a measure. -/
theorem LoopP.of {X : Type} (F : X → St) (μ : X → Nat) {B : St → (Ex → St → Prop) → Prop} (mono : ∀ s k k', (∀ e s', k e s' → k' e s') → B s k → B s k') {k : Ex → St → Prop} (I : X → Prop)
    (h : ∀ x, I x → B (F x) (fun e s' => match e with | .normal => ∃ y, s' = F y ∧ I y ∧ μ y < μ x | e => k e s')) : ∀ x, I x → LoopP B (F x) k := by
  have key : ∀ n x, μ x = n → I x → LoopP B (F x) k := by
    intro n
    induction n using Nat.strongRecOn with
    | _ n ih =>
      intro x hx hi
      refine LoopP.step mono (mono _ _ _ ?_ (h x hi))
      intro e s' he
      cases e with
      | normal =>
        obtain ⟨y, rfl, hy, hlt⟩ := he
        exact ih _ (hx ▸ hlt) y rfl hy
      | exit => exact he
      | ret => exact he
  exact fun x hi => key _ x rfl hi

/-- What a loop's round comes to. -/
def loopB (E : Env) (C : Orc) (keep : Nat → List Nat) (b : Code) (s : St) (k' : Ex → St → Prop) : Prop :=
  evCode E C keep b s fun e s' => match e with | .normal => k' .normal (s'.gc (keep (loopKey b))) | e => k' e s'

theorem loopB_mono {E : Env} {C : Orc} {keep : Nat → List Nat} {b : Code} (s : St) (k k' : Ex → St → Prop) (h : ∀ e s', k e s' → k' e s') : loopB E C keep b s k → loopB E C keep b s k' := by
  refine evCode_mono _ _ _ _ _ _ _ ?_
  intro e s'
  cases e <;> exact h _ _

theorem evLoop_of {X : Type} (F : X → St) (μ : X → Nat) (I : X → Prop) {E : Env} {C : Orc} {keep : Nat → List Nat} {b : Code} {k : Ex → St → Prop} {s0 : St} (x0 : X) (h0 : s0 = F x0) (i0 : I x0)
    (h : ∀ x, I x → evCode E C keep b (F x) (fun e s' => match e with | .normal => ∃ y, s'.gc (keep (loopKey b)) = F y ∧ I y ∧ μ y < μ x | e => k e s')) :
    LoopP (fun s k' => evCode E C keep b s fun e s' => match e with | .normal => k' .normal (s'.gc (keep (loopKey b))) | e => k' e s') s0 k := by
  subst h0
  refine LoopP.of (B := loopB E C keep b) F μ loopB_mono I ?_ x0 i0
  intro x hx
  refine evCode_mono _ _ _ _ _ _ _ ?_ (h x hx)
  intro e s' he
  cases e <;> exact he

end Go.Proofs.Ytlndfmmigndgeaa.Ev

/- Functions: how they begin and what they return. -/
namespace Go.Proofs.Ytlndfmmigndgeaa.Ev
open Go

def AV.isPtr : AV → Bool
  | .ptr _ => true
  | _ => false

/-- One result, at its shape. -/
def retOne (E : Env) (s : Sh) : ResultVar → M AV
  | .tmp t => (takeOp (.tmp t)).bind fun v => (typed E.nest (some s) v).bind AV.resolve
  | .cell a t => .rd 0 a fun sl => (loadAV sl.v).bind fun x => if E.sz t = some (x.size, x.isAgg) ∧ sl.v.isPtr = true then x.resolve else .fail

def retAll (E : Env) : List Sh → List ResultVar → M AV
  | [], [] => .pure .unit
  | s :: ss, r :: rs => (retOne E s r).bind fun v => (retAll E ss rs).bind fun w => .pure (.pair v w)
  | _, _ => .fail

/-- The results: one by itself, several in a chain. -/
def retM (E : Env) (ss : List Sh) (rs : List ResultVar) : M AV :=
  match ss, rs with
  | [s], [r] => retOne E s r
  | _, _ => retAll E ss rs

/-- May a value count as one of another ownership: the same, or (where there is one result) none. -/
def Pk.as (one : Bool) (w r : Pk) : Prop := w = r ∨ (one = true ∧ r.o = .fz ∧ ∃ h : w.s = r.s, castDen h w.x = r.x)

def Sh.isPtr : Sh → Bool
  | .ptr _ => true
  | _ => false
def normP : (s : Sh) → s.den → AV
  | .ptr s, some x => .dp s x
  | s, x => .d s x
/-- Pointers to frozen data as the function sees them. -/
def AV.norm : AV → AV
  | .d s x => cond s.isPtr (normP s x) (.d s x)
  | v => v
def normsK : List AV → (List AV → Prop) → Prop
  | [], k => k []
  | v :: r, k => v.norm.force fun v => normsK r fun r => k (v :: r)
theorem normsK_eq : ∀ (l : List AV) (k : List AV → Prop), normsK l k = k (l.map AV.norm) := by
  intro l
  induction l with
  | nil => intro k; rfl
  | cons v r ih => intro k; simp only [normsK, AV.force_eq, ih]; rfl

def argSlot (v : AV) : Slot := ⟨v, .undef, true, false⟩
def emptySlot : Slot := ⟨.undef, .undef, false, false⟩
def startFrm (args : List AV) (n : Nat) : Frm := args.map argSlot ++ List.replicate (n - args.length) emptySlot

/-- What must hold for a function to return 'r'. -/
def evFun (E : Env) (C : Orc) (keep : Nat → List Nat) (ss : List Sh) (rs : List ResultVar) (n : Nat) (body : Code) (args : List AV) (o : St) (k : Pk → St → Prop) : Prop :=
  normsK args fun args => evCode E C keep body (startFrm args n :: o) fun e st => match e with
    | .exit _ => False
    | _ => (retM E ss rs).wp C st fun v st' => ∃ w r, v.pack = some w ∧ w.as (rs.length == 1) r ∧ k r st'.tail

/-- A place as the caller sees it. -/
def Pl.low (q : Pl) : Pl := { q with r := { q.r with k := q.r.k - 1 } }

/-- What a function hands back that was handed views: values, and views of outer places, as the caller sees them. -/
def AV.lower : AV → Option AV
  | .vw q e => if q.r.k = 0 then none else some (.vw q.low e)
  | .sub q e lo n => if q.r.k = 0 then none else some (.sub q.low e lo n)
  | .ptr q => if q.r.k = 0 then none else some (.ptr q.low)
  | .pair a b => match a.lower, b.lower with
    | some x, some y => some (.pair x y)
    | _, _ => none
  | .fn f a => match a.lower with
    | some x => some (.fn f x)
    | none => none
  | .tup _ => none
  | .hol _ _ _ _ _ => none
  | .undef => none
  | v => some v

/-- As 'evFun', for a function that is handed views of the caller's places. -/
def evInl (E : Env) (C : Orc) (keep : Nat → List Nat) (ss : List Sh) (rs : List ResultVar) (n : Nat) (body : Code) (args : List AV) (o : St) (k : AV → St → Prop) : Prop :=
  evCode E C keep body (startFrm args n :: o) fun e st => match e with
    | .exit _ => False
    | _ => (retM E ss rs).wp C st fun v st' => ∃ r, v.lower = some r ∧ k r st'.tail

end Go.Proofs.Ytlndfmmigndgeaa.Ev

/- What the evaluator's values mean in the machine's memory. -/
namespace Go.Proofs.Ytlndfmmigndgeaa.Ev
open Go
set_option linter.unusedSimpArgs false
set_option linter.unusedVariables false

/-- A place by the frame's level (the outermost frame has level 0). -/
structure Key where
  lv : Nat
  s : Nat
  bx : Bool
  p : List Stp
  deriving DecidableEq

def Key.child (K : Key) (i : Stp) : Key := { K with p := i :: K.p }
def Key.ext (K : Key) (p : List Stp) : Key := { K with p := p.reverse ++ K.p }

def offOf : List Stp → Nat
  | .l :: p => offOf p
  | .r n :: p => offOf p + n
  | .ix i z :: _ => i * z
  | [] => 0

def Key.node (K : Key) : Key := { K with p := nodeOf K.p }

/-- An owned slice's array, or none for nil. -/
inductive Nd where
  | nil | blk (b len : Nat)

/-- The ghost side: which block each owned node is, which blocks are frozen, the heap, which places may be viewed. -/
structure Cx where
  ρ : Key → Option Nd
  Z : Nat → Prop
  h : Array Obj
  fl : Nat → Nat → Bool → Bool

def Seg {α : Type} (R : α → List Value → Prop) : List α → List Value → Prop
  | [], _ => True
  | x :: xs, cs => ∃ c r, cs = c ++ r ∧ R x c ∧ Seg R xs r

def SegI {α : Type} (R : Nat → α → List Value → Prop) : Nat → List α → List Value → Prop
  | _, [], _ => True
  | i, x :: xs, cs => ∃ c r, cs = c ++ r ∧ R i x c ∧ SegI R (i + 1) xs r

/-- Values that a function holds, and their cells. -/
def FlatOf : Sh → List Value → List Value → Prop
  | .pair a b, vs, cs => ∃ v r c1 c2, vs = v :: r ∧ cs = c1 ++ c2 ∧ (a.isAgg = true → v = .agg c1.toArray) ∧ (a.isAgg = false → c1 = [v]) ∧ c1.length = a.size ∧ FlatOf b r c2
  | _, vs, cs => vs = cs

/-- Frozen data in cells. -/
def DR (Z : Nat → Prop) (h : Array Obj) : (s : Sh) → s.den → List Value → Prop
  | .int k, n, cs => cs = [.int k n]
  | .bool, b, cs => cs = [.bool b]
  | .str, x, cs => cs = [.string x]
  | .unit, _, cs => cs = []
  | .pair a b, x, cs => ∃ c1 c2, cs = c1 ++ c2 ∧ DR Z h a x.1 c1 ∧ DR Z h b x.2 c2
  | .sl e, l, cs => (l = [] ∧ ∃ a c, cs = [.slice a 0 c]) ∨ ∃ b off cap arr el fr, cs = [.slice (some ⟨b, off, none⟩) l.length cap] ∧ l.length ≤ cap ∧ Z b ∧
      h[b]? = some (.cells arr el fr) ∧ Seg (DR Z h e) l (arr.toList.drop off)
  | .fn f c, x, cs => ∃ arr cells, cs = [.func (.func f) #[] arr] ∧ FlatOf c arr.toList cells ∧ DR Z h c x cells
  | .ptr s, x, cs => (x = none ∧ cs = [.pointer none]) ∨ ∃ y b off arr el fr c r, x = some y ∧ cs = [.pointer (some ⟨b, off, none⟩)] ∧ Z b ∧ h[b]? = some (.cells arr el fr) ∧ arr.toList.drop off = c ++ r ∧ DR Z h s y c

/-- Data whose slices are owned as told. -/
def OR (R : Cx) : (s : Sh) → Ow → Key → s.den → List Value → Prop
  | .pair a b, .pr o1 o2, K, x, cs => ∃ c1 c2, cs = c1 ++ c2 ∧ OR R a o1 (K.child .l) x.1 c1 ∧ OR R b o2 (K.child (.r a.size)) x.2 c2
  | .sl e, .ow o, K, l, cs => (R.ρ K = some .nil ∧ l = [] ∧ cs = [.slice none 0 0]) ∨ ∃ b cap arr el, R.ρ K = some (.blk b l.length) ∧
      cs = [.slice (some ⟨b, 0, none⟩) l.length cap] ∧ l.length ≤ cap ∧ cap * e.size ≤ arr.size ∧ R.h[b]? = some (.cells arr el (0, 0)) ∧
      SegI (fun i x c => OR R e o (K.child (.ix i e.size)) x c) 0 l arr.toList
  | s, _, _, x, cs => DR R.Z R.h s x cs

/-- A pointer's target, as seen from a holder. -/
def Key.at (K : Key) (q : Pl) : Key := ⟨K.lv - q.r.k, q.r.s, q.r.bx, q.p⟩

def Cx.sees (R : Cx) (K : Key) (q : Pl) : Prop := q.r.k ≤ K.lv ∧ R.fl (K.lv - q.r.k) q.r.s q.r.bx = true

def isSl : Value → Prop
  | .slice _ _ _ => True
  | _ => False

def isPt : Value → Prop
  | .pointer _ => True
  | _ => False

/-- The header of a whole view of a node. -/
def VwR (R : Cx) (e : Sh) (v : Value) : Option Nd → Prop
  | none => isSl v
  | some .nil => v = .slice none 0 0
  | some (.blk b len) => ∃ cap arr el, v = .slice (some ⟨b, 0, none⟩) len cap ∧ len ≤ cap ∧ cap * e.size ≤ arr.size ∧ R.h[b]? = some (.cells arr el (0, 0))

def SubR (R : Cx) (e : Sh) (lo n : Nat) (v : Value) : Option Nd → Prop
  | none => isSl v
  | some .nil => v = .slice none 0 0 ∧ lo = 0 ∧ n = 0
  | some (.blk b len) => ∃ off cap, v = .slice (some ⟨b, off, none⟩) n cap ∧ n ≤ cap ∧ lo + n ≤ len ∧ (n = 0 ∨ off = lo * e.size)

def PtrR (v : Value) (off : Nat) : Option Nd → Prop
  | some (.blk b _) => v = .pointer (some ⟨b, off, none⟩)
  | _ => isPt v

/-- Values in cells; 'K': where they are held. -/
def VR (R : Cx) : AV → Key → List Value → Prop
  | .d s x, _, cs => DR R.Z R.h s x cs
  | .own e o l, K, cs => OR R (.sl e) (.ow o) K l cs
  | .hol e o l i a, K, cs => a.solid = true ∧ a.size = e.size ∧ i < l.length ∧ ∃ b cap arr el, R.ρ K = some (.blk b l.length) ∧ cs = [.slice (some ⟨b, 0, none⟩) l.length cap] ∧ l.length ≤ cap ∧ cap * e.size ≤ arr.size ∧
      R.h[b]? = some (.cells arr el (0, 0)) ∧ (∀ j, j < l.length → j ≠ i → ∃ c r, arr.toList.drop (j * e.size) = c ++ r ∧ OR R e o (K.child (.ix j e.size)) (l.getD j e.dflt) c) ∧
      ∃ c r, arr.toList.drop (i * e.size) = c ++ r ∧ VR R a (K.child (.ix i e.size)) c
  | .vw q e, K, cs => ∃ v, cs = [v] ∧ R.sees K q ∧ VwR R e v (R.ρ (K.at q))
  | .sub q e lo n, K, cs => ∃ v, cs = [v] ∧ R.sees K q ∧ SubR R e lo n v (R.ρ (K.at q))
  | .ptr q, K, cs => ∃ v, cs = [v] ∧ R.sees K q ∧ PtrR v (offOf q.p) (R.ρ (K.at q).node)
  | .dp s x, _, cs => ∃ b off arr el fr c r, cs = [.pointer (some ⟨b, off, none⟩)] ∧ R.Z b ∧ R.h[b]? = some (.cells arr el fr) ∧ arr.toList.drop off = c ++ r ∧ DR R.Z R.h s x c
  | .pair a b, K, cs => ∃ c1 c2, cs = c1 ++ c2 ∧ VR R a (K.child .l) c1 ∧ VR R b (K.child (.r a.size)) c2
  | .unit, _, cs => cs = []
  | .fn f .unit, _, cs => cs = [.func (.func f) #[] #[]]
  | .fn _ _, _, _ => False
  | .nils, _, cs => cs = [.slice none 0 0]
  | .undef, _, cs => ∃ v, cs = [v] ∧ v.oneCell' = true
  | .tup _, _, _ => False

/-- A value in a slot. -/
def VV (R : Cx) (a : AV) (K : Key) (v : Value) : Prop :=
  match a with
  | .undef => True
  | a => if a.isAgg then ∃ arr, v = .agg arr ∧ VR R a K arr.toList else VR R a K [v]

def TupR (R : Cx) : AV → Key → List Value → Prop
  | .pair x y, K, vs => ∃ v r, vs = v :: r ∧ VV R x (K.child .l) v ∧ TupR R y (K.child (.r 0)) r
  | .unit, _, vs => vs = []
  | _, _, _ => False

def SV (R : Cx) (a : AV) (K : Key) (v : Value) : Prop :=
  match a with
  | .tup b => ∃ vs, v = .tuple vs ∧ TupR R b K vs.toList
  | a => VV R a K v

/-- A box: nothing known of it, or its block holds its value. -/
def BoxR (R : Cx) (a : AV) (K : Key) : Prop :=
  a = .undef ∨ ∃ b arr el, R.ρ K = some (.blk b 0) ∧ R.h[b]? = some (.cells arr el (0, 0)) ∧ VR R a K arr.toList

/-! ### Sizes -/

theorem DR.length {Z : Nat → Prop} {h : Array Obj} : ∀ {s : Sh} {x : s.den} {cs : List Value}, DR Z h s x cs → cs.length = s.size := by
  intro s
  induction s with
  | int | bool | str | unit => intro x cs h; simp only [DR] at h; subst h; rfl
  | pair a b iha ihb =>
    intro x cs h
    simp only [DR] at h
    obtain ⟨c1, c2, rfl, h1, h2⟩ := h
    simp only [List.length_append, iha h1, ihb h2, Sh.size]
  | sl e ih =>
    intro x cs h
    simp only [DR] at h
    rcases h with ⟨_, _, _, rfl⟩ | ⟨_, _, _, _, _, _, rfl, _⟩ <;> rfl
  | fn f c ih => intro x cs h; obtain ⟨_, _, rfl, _⟩ := h; rfl
  | ptr s ih => intro x cs h; rcases h with ⟨_, rfl⟩ | ⟨_, _, _, _, _, _, _, _, _, rfl, _⟩ <;> rfl

theorem OR.length {R : Cx} : ∀ {s : Sh} {o : Ow} {K : Key} {x : s.den} {cs : List Value}, OR R s o K x cs → cs.length = s.size := by
  intro s
  induction s with
  | int | bool | str | unit | fn | ptr => intro o K x cs h; simp only [OR] at h; exact DR.length h
  | pair a b iha ihb =>
    intro o K x cs h
    cases o with
    | pr o1 o2 =>
      simp only [OR] at h
      obtain ⟨c1, c2, rfl, h1, h2⟩ := h
      simp only [List.length_append, iha h1, ihb h2, Sh.size]
    | fz => simp only [OR] at h; exact DR.length h
    | ow o => simp only [OR] at h; exact DR.length h
  | sl e ih =>
    intro o K x cs h
    cases o with
    | ow o =>
      simp only [OR] at h
      rcases h with ⟨_, _, rfl⟩ | ⟨_, _, _, _, _, rfl, _⟩ <;> rfl
    | fz => simp only [OR] at h; exact DR.length h
    | pr o1 o2 => simp only [OR] at h; exact DR.length h

theorem VR.length {R : Cx} : ∀ {a : AV} {K : Key} {cs : List Value}, VR R a K cs → cs.length = a.size := by
  intro a
  induction a with
  | d s x => intro K cs h; exact DR.length h
  | own e o l => intro K cs h; simp only [VR] at h; exact OR.length h
  | hol e o l i a ih => intro K cs h; obtain ⟨_, _, _, _, _, _, _, _, rfl, _⟩ := h; rfl
  | vw q e => intro K cs h; obtain ⟨v, rfl, _⟩ := h; rfl
  | sub q e lo n => intro K cs h; obtain ⟨v, rfl, _⟩ := h; rfl
  | ptr q => intro K cs h; obtain ⟨v, rfl, _⟩ := h; rfl
  | dp s x => intro K cs h; obtain ⟨_, _, _, _, _, _, _, rfl, _⟩ := h; rfl
  | pair a b iha ihb =>
    intro K cs h
    simp only [VR] at h
    obtain ⟨c1, c2, rfl, h1, h2⟩ := h
    simp only [List.length_append, iha h1, ihb h2, AV.size]
  | unit => intro K cs h; simp only [VR] at h; subst h; rfl
  | tup a => intro K cs h; exact h.elim
  | fn f a => intro K cs h; cases a <;> simp only [VR] at h <;> first | exact h.elim | (subst h; rfl)
  | nils => intro K cs h; simp only [VR] at h; subst h; rfl
  | undef => intro K cs h; obtain ⟨v, rfl, _⟩ := h; rfl

/-! ### Laying typed values open -/

theorem unpack_size : ∀ (s : Sh) (o : Ow) (x : s.den), (unpack s o x).size = s.size := by
  intro s
  induction s with
  | pair a b iha ihb => intro o x; cases o <;> simp only [unpack, AV.size, iha, ihb, Sh.size]
  | sl e ih => intro o x; cases o <;> rfl
  | _ => intro o x; cases o <;> rfl

theorem unpack_VR {R : Cx} : ∀ (s : Sh) (o : Ow) (K : Key) (x : s.den) (cs : List Value), VR R (unpack s o x) K cs ↔ OR R s o K x cs := by
  intro s
  induction s with
  | pair a b iha ihb =>
    intro o K x cs
    cases o with
    | pr o1 o2 => simp only [unpack, VR, OR, iha, ihb, unpack_size]
    | fz => simp only [unpack, VR, OR]
    | ow o => simp only [unpack, VR, OR]
  | sl e ih => intro o K x cs; cases o <;> simp only [unpack, VR, OR]
  | _ => intro o K x cs; cases o <;> simp only [unpack, VR, OR]

theorem Ow.pr'_OR {R : Cx} {a b : Sh} (o1 o2 : Ow) (K : Key) (x : (Sh.pair a b).den) (cs : List Value) : OR R (.pair a b) (Ow.pr' o1 o2) K x cs ↔ OR R (.pair a b) (.pr o1 o2) K x cs := by
  have fz : ∀ (s : Sh) (K : Key) (x : s.den) (cs : List Value), OR R s .fz K x cs ↔ DR R.Z R.h s x cs := by
    intro s K x cs; cases s <;> simp only [OR]
  cases o1 <;> cases o2 <;> simp only [Ow.pr']
  simp only [OR, DR, fz]

theorem pack_VR {R : Cx} : ∀ (a : AV) (w : Pk), a.pack = some w → ∀ (K : Key) (cs : List Value), VR R a K cs ↔ OR R w.s w.o K w.x cs := by
  intro a
  induction a with
  | d s x => intro w h K cs; simp only [AV.pack, Option.some.injEq] at h; subst h; cases s <;> simp only [VR, OR]
  | own e o l => intro w h K cs; simp only [AV.pack, Option.some.injEq] at h; subst h; simp only [VR]
  | unit => intro w h K cs; simp only [AV.pack, Option.some.injEq] at h; subst h; simp only [VR, OR, DR]
  | pair a b iha ihb =>
    intro w h K cs
    simp only [AV.pack] at h
    split at h
    · rename_i x y hx hy
      simp only [Option.some.injEq] at h
      subst h
      have hs : ∀ (a : AV) (w : Pk), a.pack = some w → a.size = w.s.size := by
        intro a
        induction a with
        | d s x => intro w h; simp only [AV.pack, Option.some.injEq] at h; subst h; rfl
        | own e o l => intro w h; simp only [AV.pack, Option.some.injEq] at h; subst h; rfl
        | unit => intro w h; simp only [AV.pack, Option.some.injEq] at h; subst h; rfl
        | pair a b iha ihb =>
          intro w h
          simp only [AV.pack] at h
          split at h
          · rename_i x y hx hy
            simp only [Option.some.injEq] at h
            subst h
            simp only [AV.size, iha _ hx, ihb _ hy, Sh.size]
          · simp at h
        | _ => intro w h; simp [AV.pack] at h
      rw [Ow.pr'_OR]
      simp only [VR, OR, iha _ hx, ihb _ hy, hs _ _ hx]
    · simp at h
  | _ => intro w h; simp [AV.pack] at h

/-! ### Cells are of one cell -/

theorem isSl.one {v : Value} (h : isSl v) : v.oneCell' = true := by cases v <;> first | exact h.elim | rfl
theorem isPt.one {v : Value} (h : isPt v) : v.oneCell' = true := by cases v <;> first | exact h.elim | rfl

theorem VwR.sl {R : Cx} {e : Sh} {v : Value} {nd : Option Nd} (h : VwR R e v nd) : isSl v := by
  cases nd with
  | none => exact h
  | some nd => cases nd with
    | nil => have h : v = _ := h; rw [h]; trivial
    | blk b n => obtain ⟨_, _, _, h, _⟩ := h; rw [h]; trivial

theorem SubR.sl {R : Cx} {e : Sh} {lo n : Nat} {v : Value} {nd : Option Nd} (h : SubR R e lo n v nd) : isSl v := by
  cases nd with
  | none => exact h
  | some nd => cases nd with
    | nil => obtain ⟨h, _⟩ := h; rw [h]; trivial
    | blk b n => obtain ⟨_, _, h, _⟩ := h; rw [h]; trivial

theorem PtrR.pt {off : Nat} {v : Value} {nd : Option Nd} (h : PtrR v off nd) : isPt v := by
  cases nd with
  | none => exact h
  | some nd => cases nd with
    | nil => exact h
    | blk b n => have h : v = _ := h; rw [h]; trivial

theorem DR.one {Z : Nat → Prop} {h : Array Obj} : ∀ {s : Sh} {x : s.den} {cs : List Value}, DR Z h s x cs → ∀ v ∈ cs, v.oneCell' = true := by
  intro s
  induction s with
  | int | bool | str | unit => intro x cs h v hv; simp only [DR] at h; subst h; first | (simp only [List.mem_singleton] at hv; subst hv; rfl) | simp at hv
  | pair a b iha ihb =>
    intro x cs h v hv
    simp only [DR] at h
    obtain ⟨c1, c2, rfl, h1, h2⟩ := h
    rcases List.mem_append.1 hv with hv | hv
    · exact iha h1 v hv
    · exact ihb h2 v hv
  | sl e ih =>
    intro x cs h v hv
    simp only [DR] at h
    rcases h with ⟨_, _, _, rfl⟩ | ⟨_, _, _, _, _, _, rfl, _⟩ <;> (simp only [List.mem_singleton] at hv; subst hv; rfl)
  | fn f c ih => intro x cs h v hv; obtain ⟨_, _, rfl, _⟩ := h; simp only [List.mem_singleton] at hv; subst hv; rfl
  | ptr s ih => intro x cs h v hv; rcases h with ⟨_, rfl⟩ | ⟨_, _, _, _, _, _, _, _, _, rfl, _⟩ <;> (simp only [List.mem_singleton] at hv; subst hv; rfl)

theorem OR.one {R : Cx} : ∀ {s : Sh} {o : Ow} {K : Key} {x : s.den} {cs : List Value}, OR R s o K x cs → ∀ v ∈ cs, v.oneCell' = true := by
  intro s
  induction s with
  | int | bool | str | unit | fn | ptr => intro o K x cs h; simp only [OR] at h; exact DR.one h
  | pair a b iha ihb =>
    intro o K x cs h
    cases o with
    | pr o1 o2 =>
      simp only [OR] at h
      obtain ⟨c1, c2, rfl, h1, h2⟩ := h
      intro v hv
      rcases List.mem_append.1 hv with hv | hv
      · exact iha h1 v hv
      · exact ihb h2 v hv
    | fz => simp only [OR] at h; exact DR.one h
    | ow o => simp only [OR] at h; exact DR.one h
  | sl e ih =>
    intro o K x cs h
    cases o with
    | ow o =>
      simp only [OR] at h
      intro v hv
      rcases h with ⟨_, _, rfl⟩ | ⟨_, _, _, _, _, rfl, _⟩ <;> (simp only [List.mem_singleton] at hv; subst hv; rfl)
    | fz => simp only [OR] at h; exact DR.one h
    | pr o1 o2 => simp only [OR] at h; exact DR.one h

theorem VR.one {R : Cx} : ∀ {a : AV} {K : Key} {cs : List Value}, VR R a K cs → ∀ v ∈ cs, v.oneCell' = true := by
  have single : ∀ {u : Value}, u.oneCell' = true → ∀ v ∈ [u], v.oneCell' = true := by
    intro u hu v hv; simp only [List.mem_singleton] at hv; subst hv; exact hu
  intro a
  induction a with
  | d s x => intro K cs h; exact DR.one h
  | own e o l => intro K cs h; simp only [VR] at h; exact OR.one h
  | vw q e => intro K cs h; obtain ⟨v, rfl, _, h⟩ := h; exact single h.sl.one
  | sub q e lo n => intro K cs h; obtain ⟨v, rfl, _, h⟩ := h; exact single h.sl.one
  | ptr q => intro K cs h; obtain ⟨v, rfl, _, h⟩ := h; exact single h.pt.one
  | hol e o l i a ih => intro K cs h; obtain ⟨_, _, _, _, _, _, _, _, rfl, _⟩ := h; exact single rfl
  | dp s x => intro K cs h; obtain ⟨_, _, _, _, _, _, _, rfl, _⟩ := h; exact single rfl
  | pair a b iha ihb =>
    intro K cs h v hv
    simp only [VR] at h
    obtain ⟨c1, c2, rfl, h1, h2⟩ := h
    rcases List.mem_append.1 hv with hv | hv
    · exact iha h1 v hv
    · exact ihb h2 v hv
  | unit => intro K cs h v hv; simp only [VR] at h; subst h; simp at hv
  | tup a => intro K cs h; exact h.elim
  | fn f a => intro K cs h; cases a <;> simp only [VR] at h <;> first | exact h.elim | (subst h; exact single rfl)
  | nils => intro K cs h; simp only [VR] at h; subst h; exact single rfl
  | undef => intro K cs h; obtain ⟨v, rfl, h⟩ := h; exact single h

end Go.Proofs.Ytlndfmmigndgeaa.Ev

/- Places: what a step into a value finds. -/
namespace Go.Proofs.Ytlndfmmigndgeaa.Ev
open Go
set_option linter.unusedSimpArgs false
set_option linter.unusedVariables false

def AtR (R : Cx) (K : Key) (cs : List Value) : Prop :=
  ∃ b arr el n r, R.ρ K.node = some (.blk b n) ∧ R.h[b]? = some (.cells arr el (0, 0)) ∧ arr.toList.drop (offOf K.p) = cs ++ r

theorem SegI.get {α : Type} {Q : Nat → α → List Value → Prop} {z : Nat} (d : α) (hz : ∀ i x c, Q i x c → c.length = z) : ∀ (l : List α) (i0 : Nat) (cs : List Value), SegI Q i0 l cs →
    ∀ j, j < l.length → ∃ c r, cs.drop (j * z) = c ++ r ∧ Q (i0 + j) (l.getD j d) c := by
  intro l
  induction l with
  | nil => intro i0 cs _ j hj; simp at hj
  | cons x xs ih =>
    intro i0 cs h j hj
    obtain ⟨c, r, rfl, hq, hs⟩ := h
    cases j with
    | zero => exact ⟨c, r, by simp, by simpa using hq⟩
    | succ j =>
      obtain ⟨c', r', h1, h2⟩ := ih (i0 + 1) r hs j (by simpa using hj)
      refine ⟨c', r', ?_, ?_⟩
      · have : (j + 1) * z = c.length + j * z := by rw [hz _ _ _ hq, Nat.succ_mul]; omega
        rw [this, List.drop_append]; simp only [Nat.add_sub_cancel_left]
        rw [List.drop_eq_nil_of_le (by omega), List.nil_append, h1]
      · have : i0 + (j + 1) = i0 + 1 + j := by omega
        rw [this]; simpa using h2

theorem Seg.get {α : Type} {Q : α → List Value → Prop} {z : Nat} (d : α) (hz : ∀ x c, Q x c → c.length = z) : ∀ (l : List α) (cs : List Value), Seg Q l cs →
    ∀ j, j < l.length → ∃ c r, cs.drop (j * z) = c ++ r ∧ Q (l.getD j d) c := by
  intro l
  induction l with
  | nil => intro cs _ j hj; simp at hj
  | cons x xs ih =>
    intro cs h j hj
    obtain ⟨c, r, rfl, hq, hs⟩ := h
    cases j with
    | zero => exact ⟨c, r, by simp, by simpa using hq⟩
    | succ j =>
      obtain ⟨c', r', h1, h2⟩ := ih r hs j (by simpa using hj)
      refine ⟨c', r', ?_, by simpa using h2⟩
      have : (j + 1) * z = c.length + j * z := by rw [hz _ _ hq, Nat.succ_mul]; omega
      rw [this, List.drop_append]; simp only [Nat.add_sub_cancel_left]
      rw [List.drop_eq_nil_of_le (by omega), List.nil_append, h1]

theorem AtR.left {R : Cx} {K : Key} {c1 c2 : List Value} (h : AtR R K (c1 ++ c2)) : AtR R (K.child .l) c1 := by
  obtain ⟨b, arr, el, n, r, h1, h2, h3⟩ := h
  exact ⟨b, arr, el, n, c2 ++ r, h1, h2, by simpa [Key.child, offOf] using h3⟩

theorem AtR.right {R : Cx} {K : Key} {c1 c2 : List Value} {m : Nat} (h : AtR R K (c1 ++ c2)) (hm : c1.length = m) : AtR R (K.child (.r m)) c2 := by
  obtain ⟨b, arr, el, n, r, h1, h2, h3⟩ := h
  refine ⟨b, arr, el, n, r, h1, h2, ?_⟩
  have : arr.toList.drop (offOf (K.child (.r m)).p) = (arr.toList.drop (offOf K.p)).drop m := by simp [Key.child, offOf]
  rw [this, h3, ← hm]; simp

/-- What one step finds. -/
theorem step_wp {C : Orc} {a : AV} {i : Stp} {st : St} {k : AV → St → Prop} (h : (a.step i).wp C st k) :
    ∃ x, k x st ∧ ∀ R K cs, VR R a K cs → ∃ c, VR R x (K.child i) c ∧ (AtR R K cs → AtR R (K.child i) c) ∧ (i.isIx = true → AtR R (K.child i) c) := by
  cases a with
  | pair x y =>
    cases i with
    | l =>
      refine ⟨x, h, ?_⟩
      intro R K cs hv
      obtain ⟨c1, c2, rfl, h1, h2⟩ := hv
      exact ⟨c1, h1, fun ha => ha.left, fun e => by simp [Stp.isIx] at e⟩
    | r n =>
      simp only [AV.step] at h
      split at h
      · rename_i hn
        refine ⟨y, h, ?_⟩
        intro R K cs hv
        obtain ⟨c1, c2, rfl, h1, h2⟩ := hv
        rw [hn] at h2
        exact ⟨c2, h2, fun ha => ha.right (by rw [VR.length h1, hn]), fun e => by simp [Stp.isIx] at e⟩
      · exact h.elim
    | ix i z => exact h.elim
  | d s x =>
    cases s with
    | pair s t =>
      cases i with
      | l =>
        refine ⟨_, h, ?_⟩
        intro R K cs hv
        simp only [VR, DR] at hv
        obtain ⟨c1, c2, rfl, h1, h2⟩ := hv
        exact ⟨c1, h1, fun ha => ha.left, fun e => by simp [Stp.isIx] at e⟩
      | r n =>
        simp only [AV.step] at h
        split at h
        · rename_i hn
          refine ⟨_, h, ?_⟩
          intro R K cs hv
          simp only [VR, DR] at hv
          obtain ⟨c1, c2, rfl, h1, h2⟩ := hv
          exact ⟨c2, h2, fun ha => ha.right (by rw [DR.length h1, hn]), fun e => by simp [Stp.isIx] at e⟩
        · exact h.elim
      | ix i z => exact h.elim
    | _ => cases i <;> exact h.elim
  | own e o l =>
    cases i with
    | ix i z =>
      simp only [AV.step] at h
      split at h
      · rename_i hz
        subst hz
        obtain ⟨hi, h⟩ := h
        refine ⟨_, h, ?_⟩
        intro R K cs hv
        simp only [VR, OR] at hv
        rcases hv with ⟨_, rfl, _⟩ | ⟨b, cap, arr, el, hρ, hc, hl, hcap, hh, hs⟩
        · simp at hi
        · obtain ⟨c, r, h1, h2⟩ := SegI.get e.dflt (fun _ _ _ => OR.length) l 0 _ hs i hi
          rw [Nat.zero_add] at h2
          have hat : AtR R (K.child (.ix i e.size)) c := ⟨b, arr, el, _, r, by simpa [Key.node, Key.child, nodeOf] using hρ, hh, by simpa [Key.child, offOf] using h1⟩
          exact ⟨c, (unpack_VR _ _ _ _ _).2 h2, fun _ => hat, fun _ => hat⟩
      · exact h.elim
    | _ => exact h.elim
  | hol e o l j a =>
    cases i with
    | ix i z =>
      simp only [AV.step] at h
      split at h
      · rename_i hz
        subst hz
        obtain ⟨rfl, h⟩ := h
        refine ⟨_, h, ?_⟩
        intro R K cs hv
        obtain ⟨_, _, _, bk, cap, arr, el, h4, _, h5, h6, h7, _, c, r, h9, h10⟩ := hv
        have hat : AtR R (K.child (.ix i e.size)) c := ⟨bk, arr, el, _, r, by simpa [Key.node, Key.child, nodeOf] using h4, h7, by simpa [Key.child, offOf] using h9⟩
        exact ⟨c, h10, fun _ => hat, fun _ => hat⟩
      · exact h.elim
    | _ => exact h.elim
  | _ => cases i <;> exact h.elim

theorem part_wp {C : Orc} : ∀ (p : List Stp) {a : AV} {st : St} {k : AV → St → Prop}, (a.part p).wp C st k →
    ∃ x, k x st ∧ ∀ R K cs, VR R a K cs → ∃ c, VR R x (K.ext p) c ∧ (AtR R K cs → AtR R (K.ext p) c) ∧ (ixIn p = true → AtR R (K.ext p) c) := by
  intro p
  induction p with
  | nil =>
    intro a st k h
    exact ⟨a, h, fun R K cs hv => ⟨cs, by simpa [Key.ext] using hv, fun ha => by simpa [Key.ext] using ha, fun e => by simp [ixIn] at e⟩⟩
  | cons i p ih =>
    intro a st k h
    simp only [AV.part, M.wp_bind] at h
    obtain ⟨x, hx, h1⟩ := step_wp h
    obtain ⟨y, hy, h2⟩ := ih hx
    refine ⟨y, hy, ?_⟩
    intro R K cs hv
    obtain ⟨c, hc, ha, hix⟩ := h1 R K cs hv
    obtain ⟨c', hc', ha', hix'⟩ := h2 R _ c hc
    have e : (K.child i).ext p = K.ext (i :: p) := by simp [Key.ext, Key.child]
    rw [e] at hc' ha' hix'
    refine ⟨c', hc', fun h => ha' (ha h), fun h => ?_⟩
    simp only [ixIn, List.any_cons, Bool.or_eq_true] at h
    rcases h with h | h
    · exact ha' (hix h)
    · exact hix' h

end Go.Proofs.Ytlndfmmigndgeaa.Ev

/- What stays true of values when memory, ownership or views change. -/
namespace Go.Proofs.Ytlndfmmigndgeaa.Ev
open Go
set_option linter.unusedSimpArgs false
set_option linter.unusedVariables false

/-- The same register, and at or under it. -/
def Key.under (K B : Key) : Prop := K.lv = B.lv ∧ K.s = B.s ∧ K.bx = B.bx ∧ B.p <:+ K.p

theorem Key.under_refl (K : Key) : K.under K := ⟨rfl, rfl, rfl, List.suffix_refl _⟩
theorem Key.under_trans {A B C : Key} (h : A.under B) (k : B.under C) : A.under C :=
  ⟨h.1.trans k.1, h.2.1.trans k.2.1, h.2.2.1.trans k.2.2.1, k.2.2.2.trans h.2.2.2⟩
theorem Key.child_under (K : Key) (i : Stp) : (K.child i).under K := ⟨rfl, rfl, rfl, List.suffix_cons _ _⟩

/-- Some views struck. -/
def AV.le : AV → AV → Prop
  | .undef, .undef | .undef, .vw _ _ | .undef, .sub _ _ _ _ | .undef, .ptr _ => True
  | .pair a b, .pair x y => a.le x ∧ b.le y
  | .tup a, .tup x => a.le x
  | .fn f a, .fn g x => f = g ∧ a.le x
  | .d s x, .d t y => AV.d s x = AV.d t y
  | .own e o l, .own e' o' l' => AV.own e o l = AV.own e' o' l'
  | .hol e o l i a, .hol e' o' l' i' a' => AV.hol e o l i a = AV.hol e' o' l' i' a'
  | .vw q e, .vw q' e' => q = q' ∧ e = e'
  | .sub q e lo n, .sub q' e' lo' n' => q = q' ∧ e = e' ∧ lo = lo' ∧ n = n'
  | .ptr q, .ptr q' => q = q'
  | .dp s x, .dp t y => AV.dp s x = AV.dp t y
  | .unit, .unit => True
  | .nils, .nils => True
  | _, _ => False

theorem AV.le_refl (a : AV) : a.le a := by
  induction a with
  | pair a b iha ihb => exact ⟨iha, ihb⟩
  | tup a ih => exact ih
  | fn f a ih => exact ⟨rfl, ih⟩
  | _ => simp [AV.le]

theorem AV.scrub_le (r : Reg) (p : List Stp) (a : AV) : (a.scrub r p).le a := by
  induction a with
  | pair a b iha ihb => exact ⟨iha, ihb⟩
  | tup a ih => exact ih
  | fn f a ih => exact ⟨rfl, ih⟩
  | vw q e => simp only [AV.scrub]; split <;> simp [AV.le]
  | sub q e lo n => simp only [AV.scrub]; split <;> simp [AV.le]
  | ptr q => simp only [AV.scrub]; split <;> simp [AV.le]
  | _ => simp [AV.le, AV.scrub]

theorem AV.le_size {a b : AV} (h : b.le a) : b.size = a.size := by
  induction b generalizing a with
  | pair x y ihx ihy => cases a <;> simp only [AV.le] at h <;> first | exact h.elim | (simp only [AV.size]; rw [ihx h.1, ihy h.2])
  | d s x => cases a <;> simp only [AV.le] at h <;> first | exact h.elim | (rw [h])
  | own e o l => cases a <;> simp only [AV.le] at h <;> first | exact h.elim | rfl
  | _ => cases a <;> simp only [AV.le] at h <;> first | exact h.elim | rfl

/-- What views of a value are of. -/
def AV.hits : AV → Key → Key → Prop
  | .vw q _, K, T => T = K.at q ∧ q.r.k ≤ K.lv
  | .sub q _ _ _, K, T => T = K.at q ∧ q.r.k ≤ K.lv
  | .ptr q, K, T => T = (K.at q).node ∧ q.r.k ≤ K.lv
  | .pair a b, K, T => a.hits K T ∨ b.hits K T
  | .tup a, K, T => a.hits K T
  | .fn _ a, K, T => a.hits K T
  | _, _, _ => False

theorem Key.at_lv {K K' : Key} (h : K.lv = K'.lv) (q : Pl) : K.at q = K'.at q := by simp [Key.at, h]

theorem AV.hits_lv {a : AV} {K K' T : Key} (h : K.lv = K'.lv) : a.hits K T ↔ a.hits K' T := by
  induction a with
  | pair a b iha ihb => simp only [AV.hits, iha, ihb]
  | tup a ih => simp only [AV.hits, ih]
  | fn f a ih => simp only [AV.hits, ih]
  | vw q e => simp only [AV.hits, Key.at_lv h, h]
  | sub q e lo n => simp only [AV.hits, Key.at_lv h, h]
  | ptr q => simp only [AV.hits, Key.at_lv h, h]
  | _ => rfl

/-- Frozen data stay as they are. -/
theorem DR.frame {Z Z' : Nat → Prop} {h h' : Array Obj} (hz : ∀ b, Z b → Z' b) (hh : ∀ b o, Z b → h[b]? = some o → h'[b]? = some o) :
    ∀ {s : Sh} {x : s.den} {cs : List Value}, DR Z h s x cs → DR Z' h' s x cs := by
  intro s
  induction s with
  | int | bool | str | unit => intro x cs hd; exact hd
  | fn f c ih => intro x cs hd; obtain ⟨arr, cells, e, h1, h2⟩ := hd; exact ⟨arr, cells, e, h1, ih h2⟩
  | ptr s ih =>
    intro x cs hd
    rcases hd with hd | ⟨y, b, off, arr, el, fr, c, r, e1, e2, hb, hc, e3, h2⟩
    · exact .inl hd
    · exact .inr ⟨y, b, off, arr, el, fr, c, r, e1, e2, hz b hb, hh b _ hb hc, e3, ih h2⟩
  | pair a b iha ihb =>
    intro x cs hd
    obtain ⟨c1, c2, rfl, h1, h2⟩ := hd
    exact ⟨c1, c2, rfl, iha h1, ihb h2⟩
  | sl e ih =>
    intro l cs hd
    rcases hd with hd | ⟨b, off, cap, arr, el, fr, rfl, hl, hb, hc, hs⟩
    · exact .inl hd
    · refine .inr ⟨b, off, cap, arr, el, fr, rfl, hl, hz b hb, hh b _ hb hc, ?_⟩
      generalize arr.toList.drop off = cs at hs
      clear hl
      induction l generalizing cs with
      | nil => trivial
      | cons x xs ihl =>
        obtain ⟨c, r, rfl, hx, hr⟩ := hs
        exact ⟨c, r, rfl, ih hx, ihl _ hr⟩

/-- What must hold between two sides for a value held at 'K' to stay as it is. -/
structure Cx.Frame (R R' : Cx) (K : Key) : Prop where
  hz : ∀ b, R.Z b → R'.Z b
  hh : ∀ b o, R.Z b → R.h[b]? = some o → R'.h[b]? = some o
  hown : ∀ T, T.under K → R'.ρ T = R.ρ T
  hblk : ∀ T b n o, T.under K → R.ρ T = some (.blk b n) → R.h[b]? = some o → R'.h[b]? = some o

theorem Cx.Frame.sub {R R' : Cx} {K B : Key} (h : R.Frame R' K) (hb : B.under K) : R.Frame R' B :=
  ⟨h.hz, h.hh, fun T hT => h.hown T (Key.under_trans hT hb), fun T b n o hT => h.hblk T b n o (Key.under_trans hT hb)⟩

theorem OR.frame {R R' : Cx} : ∀ {s : Sh} {o : Ow} {K : Key} {x : s.den} {cs : List Value}, R.Frame R' K → OR R s o K x cs → OR R' s o K x cs := by
  intro s
  induction s with
  | int | bool | str | unit | fn | ptr => intro o K x cs f h; simp only [OR] at h ⊢; exact h.frame f.hz f.hh
  | pair a b iha ihb =>
    intro o K x cs f h
    cases o with
    | pr o1 o2 =>
      simp only [OR] at h ⊢
      obtain ⟨c1, c2, rfl, h1, h2⟩ := h
      exact ⟨c1, c2, rfl, iha (f.sub (K.child_under _)) h1, ihb (f.sub (K.child_under _)) h2⟩
    | fz => simp only [OR] at h ⊢; exact h.frame f.hz f.hh
    | ow o => simp only [OR] at h ⊢; exact h.frame f.hz f.hh
  | sl e ih =>
    intro o K l cs f h
    cases o with
    | ow o =>
      simp only [OR] at h ⊢
      rcases h with ⟨h1, h2, h3⟩ | ⟨b, cap, arr, el, hρ, rfl, hl, hcap, hc, hs⟩
      · exact .inl ⟨(f.hown K K.under_refl).trans h1, h2, h3⟩
      · refine .inr ⟨b, cap, arr, el, (f.hown K K.under_refl).trans hρ, rfl, hl, hcap, f.hblk K _ _ _ K.under_refl hρ hc, ?_⟩
        generalize arr.toList = cs at hs
        clear hl hρ
        generalize 0 = i at hs ⊢
        induction l generalizing cs i with
        | nil => trivial
        | cons x xs ihl =>
          obtain ⟨c, r, rfl, hx, hr⟩ := hs
          exact ⟨c, r, rfl, ih (f.sub (K.child_under _)) hx, ihl _ _ hr⟩
    | fz => simp only [OR] at h ⊢; exact h.frame f.hz f.hh
    | pr o1 o2 => simp only [OR] at h ⊢; exact h.frame f.hz f.hh

theorem solid_hits : ∀ {a : AV} {K T : Key}, a.solid = true → ¬ a.hits K T := by
  intro a
  induction a with
  | pair x y ihx ihy =>
    intro K T hs h
    simp only [AV.solid, Bool.and_eq_true] at hs
    rcases h with h | h
    · exact ihx hs.1 h
    · exact ihy hs.2 h
  | vw q e => intro K T hs; simp [AV.solid] at hs
  | sub q e lo n => intro K T hs; simp [AV.solid] at hs
  | ptr q => intro K T hs; simp [AV.solid] at hs
  | tup a ih => intro K T hs; simp [AV.solid] at hs
  | fn f a ih => intro K T hs; simp [AV.solid] at hs
  | _ => intro K T _ h; exact h

/-- What must hold of a view's target. -/
def Cx.Keeps (R R' : Cx) (T : Key) : Prop :=
  R'.ρ T = none ∨ (R'.ρ T = R.ρ T ∧ ∀ b n arr el, R.ρ T = some (.blk b n) → R.h[b]? = some (.cells arr el (0, 0)) → ∃ arr', R'.h[b]? = some (.cells arr' el (0, 0)) ∧ arr'.size = arr.size)

theorem VwR.keep {R R' : Cx} {e : Sh} {v : Value} {T : Key} (k : R.Keeps R' T) (h : VwR R e v (R.ρ T)) : VwR R' e v (R'.ρ T) := by
  rcases k with k | ⟨k, kb⟩
  · rw [k]; exact h.sl
  · rw [k]
    revert kb h
    cases R.ρ T with
    | none => intro h kb; exact h
    | some nd =>
      cases nd with
      | nil => intro h kb; exact h
      | blk b n =>
        intro ⟨cap, arr, el, h1, h2, h3, h4⟩ kb
        obtain ⟨arr', h5, h6⟩ := kb b n arr el rfl h4
        exact ⟨cap, arr', el, h1, h2, by omega, h5⟩

theorem SubR.keep {R R' : Cx} {e : Sh} {lo n : Nat} {v : Value} {T : Key} (k : R.Keeps R' T) (h : SubR R e lo n v (R.ρ T)) : SubR R' e lo n v (R'.ρ T) := by
  rcases k with k | ⟨k, kb⟩
  · rw [k]; exact h.sl
  · rw [k]
    revert h
    cases R.ρ T with
    | none => exact id
    | some nd => cases nd <;> exact id

theorem PtrR.keep {R R' : Cx} {off : Nat} {v : Value} {T : Key} (k : R.Keeps R' T) (h : PtrR v off (R.ρ T)) : PtrR v off (R'.ρ T) := by
  rcases k with k | ⟨k, kb⟩
  · rw [k]; exact h.pt
  · rw [k]; exact h

theorem VR.frame {R R' : Cx} : ∀ {a b : AV} {K : Key} {cs : List Value}, b.le a → R.Frame R' K → (∀ T, b.hits K T → R.fl T.lv T.s T.bx = true → R'.fl T.lv T.s T.bx = true ∧ R.Keeps R' T) →
    VR R a K cs → VR R' b K cs := by
  intro a
  induction a with
  | d s x => intro b K cs hle f hk h; cases b <;> simp only [AV.le] at hle <;> first | exact hle.elim | (rw [hle]; exact DR.frame f.hz f.hh h)
  | own e o l => intro b K cs hle f hk h; cases b <;> simp only [AV.le] at hle <;> first | exact hle.elim | (rw [hle]; simp only [VR] at h ⊢; exact OR.frame f h)
  | hol e o l i a ih =>
    intro b K cs hle f hk h
    cases b <;> simp only [AV.le] at hle <;> try exact hle.elim
    rw [hle]
    obtain ⟨h1, h2, h3, bk, cap, arr, el, h4, rfl, h5, h6, h7, h8, c, r, h9, h10⟩ := h
    refine ⟨h1, h2, h3, bk, cap, arr, el, (f.hown K K.under_refl).trans h4, rfl, h5, h6, f.hblk K _ _ _ K.under_refl h4 h7, ?_, c, r, h9, ?_⟩
    · intro j hj hji
      obtain ⟨c, r, e1, e2⟩ := h8 j hj hji
      exact ⟨c, r, e1, OR.frame (f.sub (K.child_under _)) e2⟩
    · exact ih (AV.le_refl _) (f.sub (K.child_under _)) (fun T hT => absurd hT (solid_hits h1)) h10
  | vw q e =>
    intro b K cs hle f hk h
    obtain ⟨v, rfl, ⟨hs1, hs2⟩, hv⟩ := h
    cases b <;> simp only [AV.le] at hle <;> try exact hle.elim
    · obtain ⟨rfl, rfl⟩ := hle
      obtain ⟨h1, h2⟩ := hk _ ⟨rfl, hs1⟩ hs2
      exact ⟨v, rfl, ⟨hs1, h1⟩, hv.keep h2⟩
    · exact ⟨v, rfl, hv.sl.one⟩
  | sub q e lo n =>
    intro b K cs hle f hk h
    obtain ⟨v, rfl, ⟨hs1, hs2⟩, hv⟩ := h
    cases b <;> simp only [AV.le] at hle <;> try exact hle.elim
    · obtain ⟨rfl, rfl, rfl, rfl⟩ := hle
      obtain ⟨h1, h2⟩ := hk _ ⟨rfl, hs1⟩ hs2
      exact ⟨v, rfl, ⟨hs1, h1⟩, hv.keep h2⟩
    · exact ⟨v, rfl, hv.sl.one⟩
  | ptr q =>
    intro b K cs hle f hk h
    obtain ⟨v, rfl, ⟨hs1, hs2⟩, hv⟩ := h
    cases b <;> simp only [AV.le] at hle <;> try exact hle.elim
    · obtain rfl := hle
      obtain ⟨h1, h2⟩ := hk _ ⟨rfl, hs1⟩ hs2
      exact ⟨v, rfl, ⟨hs1, h1⟩, hv.keep h2⟩
    · exact ⟨v, rfl, hv.pt.one⟩
  | dp s x =>
    intro b K cs hle f hk h
    obtain ⟨bl, off, arr, el, fr, c, r, rfl, hz, hh, hd, hx⟩ := h
    cases b <;> simp only [AV.le] at hle <;> first | exact hle.elim | (rw [hle]; exact ⟨bl, off, arr, el, fr, c, r, rfl, f.hz _ hz, f.hh _ _ hz hh, hd, hx.frame f.hz f.hh⟩)
  | pair x y ihx ihy =>
    intro b K cs hle f hk h
    obtain ⟨c1, c2, rfl, h1, h2⟩ := h
    cases b <;> simp only [AV.le] at hle <;> try exact hle.elim
    rename_i x' y'
    refine ⟨c1, c2, rfl, ihx hle.1 (f.sub (K.child_under _)) (fun T hT => hk T (.inl ((AV.hits_lv (K := K.child .l) (K' := K) rfl).1 hT))) h1, ?_⟩
    rw [AV.le_size hle.1]
    exact ihy hle.2 (f.sub (K.child_under _)) (fun T hT => hk T (.inr ((AV.hits_lv (K := K.child (.r x.size)) (K' := K) rfl).1 hT))) h2
  | unit => intro b K cs hle f hk h; cases b <;> simp only [AV.le] at hle <;> first | exact hle.elim | exact h
  | tup a ih => intro b K cs hle f hk h; exact h.elim
  | fn g a ih =>
    intro b K cs hle f hk h
    cases a <;> simp only [VR] at h <;> try exact h.elim
    cases b <;> simp only [AV.le] at hle <;> try exact hle.elim
    rename_i g' b'
    obtain ⟨rfl, hle⟩ := hle
    cases b' <;> simp only [AV.le] at hle <;> first | exact hle.elim | exact h
  | nils => intro b K cs hle f hk h; cases b <;> simp only [AV.le] at hle <;> first | exact hle.elim | exact h
  | undef =>
    intro b K cs hle f hk h
    cases b <;> simp only [AV.le] at hle <;> first | exact hle.elim | exact h

/-- A value that owns nothing may be held anywhere in the same frame. -/
theorem VR.move {R : Cx} : ∀ {a : AV} {K K' : Key} {cs : List Value}, a.hasOwn = false → K.lv = K'.lv → VR R a K cs → VR R a K' cs := by
  intro a
  induction a with
  | own e o l => intro K K' cs h; simp [AV.hasOwn] at h
  | hol e o l i a ih => intro K K' cs h; simp [AV.hasOwn] at h
  | vw q e => intro K K' cs _ hl h; obtain ⟨v, rfl, h1, h2⟩ := h; exact ⟨v, rfl, by simpa [Cx.sees, hl] using h1, by rw [← Key.at_lv hl]; exact h2⟩
  | sub q e lo n => intro K K' cs _ hl h; obtain ⟨v, rfl, h1, h2⟩ := h; exact ⟨v, rfl, by simpa [Cx.sees, hl] using h1, by rw [← Key.at_lv hl]; exact h2⟩
  | ptr q => intro K K' cs _ hl h; obtain ⟨v, rfl, h1, h2⟩ := h; exact ⟨v, rfl, by simpa [Cx.sees, hl] using h1, by rw [← Key.at_lv hl]; exact h2⟩
  | pair a b iha ihb =>
    intro K K' cs ho hl h
    simp only [AV.hasOwn, Bool.or_eq_false_iff] at ho
    obtain ⟨c1, c2, rfl, h1, h2⟩ := h
    exact ⟨c1, c2, rfl, iha (K := K.child .l) (K' := K'.child .l) ho.1 hl h1, ihb (K := K.child (.r a.size)) (K' := K'.child (.r a.size)) ho.2 hl h2⟩
  | fn g a ih => intro K K' cs _ _ h; cases a <;> exact h
  | _ => intro K K' cs _ _ h; exact h

end Go.Proofs.Ytlndfmmigndgeaa.Ev

/- Owned values change hands: a place's nodes are told under another place. -/
namespace Go.Proofs.Ytlndfmmigndgeaa.Ev
open Go
set_option linter.unusedSimpArgs false
set_option linter.unusedVariables false

def Key.plus (K : Key) (q : List Stp) : Key := { K with p := q ++ K.p }

/-- The steps of a key below another one. -/
def Key.below (K B : Key) : List Stp := K.p.take (K.p.length - B.p.length)

instance (K B : Key) : Decidable (K.under B) := by unfold Key.under; infer_instance

theorem Key.under_plus (B : Key) (q : List Stp) : (B.plus q).under B := ⟨rfl, rfl, rfl, List.suffix_append _ _⟩

theorem Key.plus_below {K B : Key} (h : K.under B) : B.plus (K.below B) = K := by
  obtain ⟨h1, h2, h3, t, h4⟩ := h
  cases K with | mk lv s bx p =>
  cases B with | mk lv' s' bx' p' =>
  simp only at h1 h2 h3 h4
  subst h1 h2 h3 h4
  simp [Key.plus, Key.below]

theorem Key.below_plus (B : Key) (q : List Stp) : (B.plus q).below B = q := by simp [Key.plus, Key.below]

theorem Key.plus_inj {B : Key} {q q' : List Stp} (h : B.plus q = B.plus q') : q = q' := by
  simp only [Key.plus, Key.mk.injEq, true_and] at h
  exact List.append_cancel_right h

theorem Key.plus_nil (B : Key) : B.plus [] = B := rfl
theorem Key.plus_child (B : Key) (q : List Stp) (i : Stp) : (B.plus q).child i = B.plus (i :: q) := rfl

/-- Nothing lies under both. -/
def Key.apart (K B : Key) : Prop := ∀ T : Key, T.under K → ¬ T.under B

theorem Key.apart_reg {K B : Key} (h : ¬ (K.lv = B.lv ∧ K.s = B.s ∧ K.bx = B.bx)) : K.apart B :=
  fun T h1 h2 => h ⟨h1.1.symm.trans h2.1, h1.2.1.symm.trans h2.2.1, h1.2.2.1.symm.trans h2.2.2.1⟩

theorem Key.apart_symm {K B : Key} (h : K.apart B) : B.apart K := fun T h1 h2 => h T h2 h1

theorem Key.apart_sub {K B K' : Key} (h : K.apart B) (hk : K'.under K) : K'.apart B := fun T h1 => h T (Key.under_trans h1 hk)

/-- What was under A is under B now; what was under B is forgotten. -/
def Cx.mv (R : Cx) (A B : Key) : Cx :=
  { R with ρ := fun K => if K.under B then R.ρ (A.plus (K.below B)) else if K.under A then none else R.ρ K }

theorem Cx.mv_at (R : Cx) (A B : Key) (q : List Stp) : (R.mv A B).ρ (B.plus q) = R.ρ (A.plus q) := by
  simp only [Cx.mv, if_pos (Key.under_plus B q), Key.below_plus]

theorem Cx.mv_off (R : Cx) {A B K : Key} (h1 : ¬ K.under A) (h2 : ¬ K.under B) : (R.mv A B).ρ K = R.ρ K := by
  simp only [Cx.mv, if_neg h1, if_neg h2]

theorem Cx.mv_src (R : Cx) {A B K : Key} (h1 : K.under A) (h2 : ¬ K.under B) : (R.mv A B).ρ K = none := by
  simp only [Cx.mv, if_pos h1, if_neg h2]

/-- Whatever is told behind was told before. -/
theorem Cx.mv_some {R : Cx} {A B K : Key} {nd : Nd} (h : (R.mv A B).ρ K = some nd) : ∃ K', R.ρ K' = some nd ∧ ((K.under B ∧ K' = A.plus (K.below B)) ∨ (¬ K.under B ∧ ¬ K.under A ∧ K' = K)) := by
  simp only [Cx.mv] at h
  split at h
  · rename_i hb; exact ⟨_, h, .inl ⟨hb, rfl⟩⟩
  · rename_i hb
    split at h
    · simp at h
    · rename_i ha; exact ⟨K, h, .inr ⟨hb, ha, rfl⟩⟩

def Cx.Inj (R : Cx) : Prop := ∀ K K' b n m, R.ρ K = some (.blk b n) → R.ρ K' = some (.blk b m) → K = K'

theorem Cx.Inj.mv {R : Cx} (h : R.Inj) (A B : Key) : (R.mv A B).Inj := by
  intro K K' b n m h1 h2
  obtain ⟨K1, e1, c1⟩ := Cx.mv_some h1
  obtain ⟨K2, e2, c2⟩ := Cx.mv_some h2
  have e := h _ _ _ _ _ e1 e2
  rcases c1 with ⟨u1, rfl⟩ | ⟨n1, a1, rfl⟩ <;> rcases c2 with ⟨u2, rfl⟩ | ⟨n2, a2, rfl⟩
  · have := Key.plus_inj e
    rw [← Key.plus_below u1, ← Key.plus_below u2, this]
  · exact absurd (e ▸ Key.under_plus A _) a2
  · exact absurd (e ▸ Key.under_plus A _) a1
  · exact e

theorem OR.rekey {R R' : Cx} {A B : Key} (hz : ∀ b, R.Z b → R'.Z b) (hh : R'.h = R.h) (hρ : ∀ q, R'.ρ (B.plus q) = R.ρ (A.plus q)) :
    ∀ {s : Sh} {o : Ow} {q : List Stp} {x : s.den} {cs : List Value}, OR R s o (A.plus q) x cs → OR R' s o (B.plus q) x cs := by
  have dd : ∀ {s : Sh} {x : s.den} {cs : List Value}, DR R.Z R.h s x cs → DR R'.Z R'.h s x cs := fun h => h.frame hz (fun b o _ e => hh ▸ e)
  intro s
  induction s with
  | int | bool | str | unit | fn | ptr => intro o q x cs h; simp only [OR] at h ⊢; exact dd h
  | pair a b iha ihb =>
    intro o q x cs h
    cases o with
    | pr o1 o2 =>
      simp only [OR] at h ⊢
      obtain ⟨c1, c2, rfl, h1, h2⟩ := h
      exact ⟨c1, c2, rfl, iha (q := .l :: q) h1, ihb (q := .r a.size :: q) h2⟩
    | fz => simp only [OR] at h ⊢; exact dd h
    | ow o => simp only [OR] at h ⊢; exact dd h
  | sl e ih =>
    intro o q l cs h
    cases o with
    | ow o =>
      simp only [OR] at h ⊢
      rw [hρ q, hh]
      rcases h with h | ⟨b, cap, arr, el, h1, h2, h3, h4, h5, hs⟩
      · exact .inl h
      · refine .inr ⟨b, cap, arr, el, h1, h2, h3, h4, h5, ?_⟩
        clear h1 h2 h3
        generalize arr.toList = cs at hs
        generalize 0 = i at hs ⊢
        induction l generalizing cs i with
        | nil => trivial
        | cons x xs ihl =>
          obtain ⟨c, r, rfl, hx, hr⟩ := hs
          exact ⟨c, r, rfl, ih (q := .ix i e.size :: q) hx, ihl _ _ hr⟩
    | fz => simp only [OR] at h ⊢; exact dd h
    | pr o1 o2 => simp only [OR] at h ⊢; exact dd h

theorem Cx.keeps_mv {R : Cx} {A B T : Key} (h : ¬ T.under B) : R.Keeps (R.mv A B) T := by
  by_cases ha : T.under A
  · exact .inl (R.mv_src ha h)
  · exact .inr ⟨R.mv_off ha h, fun b n arr el _ e => ⟨arr, e, rfl⟩⟩

/-- The moved value itself. -/
theorem VR.mv_self {R : Cx} {A B : Key} (hl : A.lv = B.lv) : ∀ {v : AV} {q : List Stp} {cs : List Value}, (∀ T, v.hits A T → R.fl T.lv T.s T.bx = true → ¬ T.under B) →
    VR R v (A.plus q) cs → VR (R.mv A B) v (B.plus q) cs := by
  have lvq : ∀ q, (A.plus q).lv = (B.plus q).lv := fun q => hl
  intro v
  induction v with
  | d s x => intro q cs _ h; exact h
  | own e o l => intro q cs _ h; simp only [VR] at h ⊢; exact OR.rekey (R := R) (R' := R.mv A B) (A := A) (fun _ => id) rfl (fun q => R.mv_at A B q) h
  | hol e o l i a ih =>
    intro q cs _ h
    obtain ⟨h1, h2, h3, bk, cap, arr, el, h4, rfl, h5, h6, h7, h8, c, r, h9, h10⟩ := h
    refine ⟨h1, h2, h3, bk, cap, arr, el, (R.mv_at A B q).trans h4, rfl, h5, h6, h7, ?_, c, r, h9, ?_⟩
    · intro j hj hji
      obtain ⟨c, r, e1, e2⟩ := h8 j hj hji
      exact ⟨c, r, e1, OR.rekey (R := R) (R' := R.mv A B) (A := A) (fun _ => id) rfl (fun q => R.mv_at A B q) (q := .ix j e.size :: q) e2⟩
    · exact ih (q := .ix i e.size :: q) (fun T hT => absurd hT (solid_hits h1)) h10
  | vw u e =>
    intro q cs hk h
    obtain ⟨w, rfl, ⟨s1, s2⟩, hv⟩ := h
    refine ⟨w, rfl, ⟨by rw [← lvq q]; exact s1, by rw [← lvq q]; exact s2⟩, ?_⟩
    rw [← Key.at_lv (lvq q)]
    exact hv.keep (Cx.keeps_mv (hk _ ⟨rfl, s1⟩ s2))
  | sub u e lo n =>
    intro q cs hk h
    obtain ⟨w, rfl, ⟨s1, s2⟩, hv⟩ := h
    refine ⟨w, rfl, ⟨by rw [← lvq q]; exact s1, by rw [← lvq q]; exact s2⟩, ?_⟩
    rw [← Key.at_lv (lvq q)]
    exact hv.keep (Cx.keeps_mv (hk _ ⟨rfl, s1⟩ s2))
  | ptr u =>
    intro q cs hk h
    obtain ⟨w, rfl, ⟨s1, s2⟩, hv⟩ := h
    refine ⟨w, rfl, ⟨by rw [← lvq q]; exact s1, by rw [← lvq q]; exact s2⟩, ?_⟩
    rw [← Key.at_lv (lvq q)]
    exact hv.keep (Cx.keeps_mv (hk _ ⟨rfl, s1⟩ s2))
  | dp s x => intro q cs _ h; exact h
  | pair a b iha ihb =>
    intro q cs hk h
    obtain ⟨c1, c2, rfl, h1, h2⟩ := h
    exact ⟨c1, c2, rfl, iha (q := .l :: q) (fun T hT => hk T (.inl hT)) h1, ihb (q := .r a.size :: q) (fun T hT => hk T (.inr hT)) h2⟩
  | unit => intro q cs _ h; exact h
  | tup a ih => intro q cs _ h; exact h.elim
  | fn f a ih => intro q cs _ h; cases a <;> exact h
  | nils => intro q cs _ h; exact h
  | undef => intro q cs _ h; exact h

/-- Any other value. -/
theorem VR.mv_other {R : Cx} {A B K : Key} {v u : AV} {cs : List Value} (hu : u.le v) (h1 : K.apart A) (h2 : K.apart B) (hk : ∀ T, u.hits K T → R.fl T.lv T.s T.bx = true → ¬ T.under B) (h : VR R v K cs) : VR (R.mv A B) u K cs :=
  VR.frame (R := R) hu ⟨fun _ => id, fun _ _ _ => id, fun T hT => R.mv_off (h1 T hT) (h2 T hT), fun _ _ _ _ _ _ => id⟩ (fun T hT hf => ⟨hf, Cx.keeps_mv (hk T hT hf)⟩) h

/-! ### A node told anew -/

def Cx.node (R : Cx) (B : Key) (nd : Option Nd) : Cx := { R with ρ := fun K => if K = B then nd else R.ρ K }

/-- All that is told under a place is forgotten. -/
def Cx.drop (R : Cx) (B : Key) : Cx := { R with ρ := fun K => if K.under B then none else R.ρ K }

theorem Cx.Inj.drop {R : Cx} (h : R.Inj) (B : Key) : (R.drop B).Inj := by
  intro K K' b n m h1 h2
  simp only [Cx.drop] at h1 h2
  split at h1
  · simp at h1
  · split at h2
    · simp at h2
    · exact h _ _ _ _ _ h1 h2

theorem VR.drop_other {R : Cx} {B K : Key} {v u : AV} {cs : List Value} (hu : u.le v) (h2 : K.apart B) (h : VR R v K cs) : VR (R.drop B) u K cs :=
  VR.frame (R := R) hu ⟨fun _ => id, fun _ _ _ => id, fun T hT => by simp only [Cx.drop, if_neg (h2 T hT)], fun _ _ _ _ _ _ => id⟩
    (fun T hT hf => ⟨hf, by
      by_cases hb : T.under B
      · exact .inl (by simp only [Cx.drop, if_pos hb])
      · exact .inr ⟨by simp only [Cx.drop, if_neg hb], fun b n arr el _ e => ⟨arr, e, rfl⟩⟩⟩) h

end Go.Proofs.Ytlndfmmigndgeaa.Ev

/- What is known of package-level variables: they stay as they are. -/
namespace Go.Proofs.Ytlndfmmigndgeaa.Ev
open Go

/-- Tables: the block and its cells. -/
def gTabs : List (Nat × List Value) := []
/-- Blocks of one number of whatever value. -/
def gInts : List Nat := []

structure GOk (w : World) : Prop where
  tabs : ∀ x ∈ gTabs, ∃ el fr, w.heap[x.1]? = some (.cells x.2.toArray el fr)
  ints : ∀ b ∈ gInts, ∃ m, w.cell? ⟨b, 0, none⟩ = some (.int .i64 m)

theorem heap_lt {w : World} {b : Nat} {o : Obj} (h : w.heap[b]? = some o) : b < w.heap.size := (Array.getElem?_eq_some_iff.1 h).1

theorem GOk.below {w w' : World} (h : GOk w) (hb : RowKit.Below w.heap.size w w') : GOk w' := by
  refine ⟨fun x hx => ?_, fun b hx => ?_⟩
  · obtain ⟨el, fr, e⟩ := h.tabs x hx
    exact ⟨el, fr, (hb.block _ (heap_lt e)).trans e⟩
  · obtain ⟨m, e⟩ := h.ints b hx
    refine ⟨m, ?_⟩
    have hlt : b < w.heap.size := by
      simp only [World.cell?] at e
      cases hh : w.heap[b]? with
      | none => rw [hh] at e; simp at e
      | some o => exact heap_lt hh
    simp only [World.cell?] at e ⊢
    rw [hb.block b hlt]; exact e

end Go.Proofs.Ytlndfmmigndgeaa.Ev

/- States and the machine's frames. -/
namespace Go.Proofs.Ytlndfmmigndgeaa.Ev
open Go
set_option linter.unusedSimpArgs false
set_option linter.unusedVariables false

/-! ### Slots of states -/

theorem St.get_set (st : St) (k s : Nat) (v : Slot) (k' s' : Nat) : (st.set k s v).get k' s' = if k' = k ∧ s' = s then (st.get k s).map fun _ => v else st.get k' s' := by
  simp only [St.get, St.set, List.getElem?_modify]
  by_cases hk : k' = k
  · subst hk
    simp only [if_true]
    cases h : st[k']? with
    | none => simp
    | some f =>
      by_cases hs : s' = s
      · subst hs
        by_cases hl : s' < f.length
        · simp [hl]
        · simp [hl]
      · have hs' : ¬ s = s' := fun e => hs e.symm
        simp [hs, hs', List.getElem?_set]
  · have hk' : ¬ k = k' := fun e => hk e.symm
    simp [hk, hk']

theorem St.length_set (st : St) (k s : Nat) (v : Slot) : (st.set k s v).length = st.length := by simp [St.set]

theorem St.length_scrub (s : Nat) (bx : Bool) (p : List Stp) (st : St) : (st.scrub s bx p).length = st.length := by cases st <;> rfl

theorem St.get_scrub (s : Nat) (bx : Bool) (p : List Stp) (st : St) (k n : Nat) : (st.scrub s bx p).get k n = if k = 0 then (st.get 0 n).map (Slot.scrub ⟨0, s, bx⟩ p) else st.get k n := by
  cases st with
  | nil => simp [St.scrub, St.get]
  | cons f o =>
    cases k with
    | zero => simp [St.scrub, St.get]
    | succ k => simp [St.scrub, St.get]

def St.fl (st : St) (lv s : Nat) (bx : Bool) : Bool :=
  decide (lv < st.length) && match st.get (st.length - 1 - lv) s with
    | some sl => sl.flag bx
    | none => false

def St.kv (st : St) (i s : Nat) : Key := ⟨st.length - 1 - i, s, false, []⟩
def St.kb (st : St) (i s : Nat) : Key := ⟨st.length - 1 - i, s, true, []⟩

/-! ### Values in slots -/

theorem AV.le_agg {a b : AV} (h : b.le a) (hb : b ≠ .undef) : b.isAgg = a.isAgg := by
  cases a <;> cases b <;> simp only [AV.le] at h <;> first | exact h.elim | rfl | (rw [h]) | exact (hb rfl).elim

theorem AV.le_undef {b : AV} (h : b.le .undef) : b = .undef := by cases b <;> simp only [AV.le] at h <;> first | rfl | exact h.elim

theorem VV.frame {R R' : Cx} {a b : AV} {K : Key} {v : Value} (hle : b.le a) (f : R.Frame R' K) (hk : ∀ T, b.hits K T → R.fl T.lv T.s T.bx = true → R'.fl T.lv T.s T.bx = true ∧ R.Keeps R' T)
    (h : VV R a K v) : VV R' b K v := by
  by_cases hb : b = .undef
  · subst hb; trivial
  · have ha : a ≠ .undef := fun e => hb (AV.le_undef (e ▸ hle))
    have ea : VV R a K v ↔ (if a.isAgg then ∃ arr, v = .agg arr ∧ VR R a K arr.toList else VR R a K [v]) := by cases a <;> first | exact (ha rfl).elim | rfl
    have eb : VV R' b K v ↔ (if b.isAgg then ∃ arr, v = .agg arr ∧ VR R' b K arr.toList else VR R' b K [v]) := by cases b <;> first | exact (hb rfl).elim | rfl
    rw [ea] at h
    rw [eb, AV.le_agg hle hb]
    split at h
    · rename_i hg; rw [if_pos hg]; obtain ⟨arr, h1, h2⟩ := h; exact ⟨arr, h1, h2.frame hle f hk⟩
    · rename_i hg; rw [if_neg hg]; exact h.frame hle f hk

theorem TupR.frame {R R' : Cx} : ∀ {a b : AV} {K : Key} {vs : List Value}, b.le a → R.Frame R' K → (∀ T, b.hits K T → R.fl T.lv T.s T.bx = true → R'.fl T.lv T.s T.bx = true ∧ R.Keeps R' T) →
    TupR R a K vs → TupR R' b K vs := by
  intro a
  induction a with
  | pair x y ihx ihy =>
    intro b K vs hle f hk h
    obtain ⟨v, r, rfl, h1, h2⟩ := h
    cases b <;> simp only [AV.le] at hle <;> try exact hle.elim
    rename_i x' y'
    exact ⟨v, r, rfl, h1.frame hle.1 (f.sub (K.child_under _)) (fun T hT => hk T (.inl ((AV.hits_lv (K := K.child .l) (K' := K) rfl).1 hT))),
      ihy hle.2 (f.sub (K.child_under _)) (fun T hT => hk T (.inr ((AV.hits_lv (K := K.child (.r 0)) (K' := K) rfl).1 hT))) h2⟩
  | unit => intro b K vs hle f hk h; cases b <;> simp only [AV.le] at hle <;> first | exact hle.elim | exact h
  | _ => intro b K vs hle f hk h; exact h.elim

theorem SV.frame {R R' : Cx} {a b : AV} {K : Key} {v : Value} (hle : b.le a) (f : R.Frame R' K) (hk : ∀ T, b.hits K T → R.fl T.lv T.s T.bx = true → R'.fl T.lv T.s T.bx = true ∧ R.Keeps R' T)
    (h : SV R a K v) : SV R' b K v := by
  cases a with
  | tup x =>
    obtain ⟨vs, rfl, h⟩ := h
    cases b <;> simp only [AV.le] at hle <;> try exact hle.elim
    exact ⟨vs, rfl, h.frame hle f hk⟩
  | _ =>
    have hle0 := hle
    cases b <;> simp only [AV.le] at hle <;> first | exact hle.elim | exact VV.frame hle0 f hk h | trivial

theorem BoxR.frame {R R' : Cx} {a b : AV} {K : Key} (hle : b.le a) (f : R.Frame R' K) (hk : ∀ T, b.hits K T → R.fl T.lv T.s T.bx = true → R'.fl T.lv T.s T.bx = true ∧ R.Keeps R' T)
    (h : BoxR R a K) : BoxR R' b K := by
  rcases h with rfl | ⟨bl, arr, el, h1, h2, h3⟩
  · exact .inl (AV.le_undef hle)
  · exact .inr ⟨bl, arr, el, (f.hown K K.under_refl).trans h1, f.hblk K _ _ _ K.under_refl h1 h2, h3.frame hle f hk⟩

/-- What a value that owns nothing is, wherever it is held in the same frame. -/
theorem VV.move {R : Cx} {a : AV} {K K' : Key} {v : Value} (ho : a.hasOwn = false) (hl : K.lv = K'.lv) (h : VV R a K v) : VV R a K' v := by
  by_cases ha : a = .undef
  · subst ha; trivial
  · have ea : ∀ K, VV R a K v ↔ (if a.isAgg then ∃ arr, v = .agg arr ∧ VR R a K arr.toList else VR R a K [v]) := by intro K; cases a <;> first | exact (ha rfl).elim | rfl
    rw [ea] at h ⊢
    split at h
    · rename_i hg; rw [if_pos hg]; obtain ⟨arr, h1, h2⟩ := h; exact ⟨arr, h1, h2.move ho hl⟩
    · rename_i hg; rw [if_neg hg]; exact h.move ho hl

theorem VV.mv_self {R : Cx} {A B : Key} (hl : A.lv = B.lv) {v : AV} {q : List Stp} {u : Value} (hk : ∀ T, v.hits A T → R.fl T.lv T.s T.bx = true → ¬ T.under B)
    (h : VV R v (A.plus q) u) : VV (R.mv A B) v (B.plus q) u := by
  by_cases ha : v = .undef
  · subst ha; trivial
  · have ea : ∀ (R : Cx) K, VV R v K u ↔ (if v.isAgg then ∃ arr, u = .agg arr ∧ VR R v K arr.toList else VR R v K [u]) := by intro R K; cases v <;> first | exact (ha rfl).elim | rfl
    rw [ea] at h ⊢
    split at h
    · rename_i hg; rw [if_pos hg]; obtain ⟨arr, h1, h2⟩ := h; exact ⟨arr, h1, VR.mv_self hl hk h2⟩
    · rename_i hg; rw [if_neg hg]; exact VR.mv_self hl hk h

theorem TupR.mv_self {R : Cx} {A B : Key} (hl : A.lv = B.lv) : ∀ {v : AV} {q : List Stp} {us : List Value}, (∀ T, v.hits A T → R.fl T.lv T.s T.bx = true → ¬ T.under B) →
    TupR R v (A.plus q) us → TupR (R.mv A B) v (B.plus q) us := by
  intro v
  induction v with
  | pair x y ihx ihy =>
    intro q us hk h
    obtain ⟨u, r, rfl, h1, h2⟩ := h
    exact ⟨u, r, rfl, VV.mv_self hl (q := .l :: q) (fun T hT => hk T (.inl hT)) h1, ihy (q := .r 0 :: q) (fun T hT => hk T (.inr hT)) h2⟩
  | unit => intro q us hk h; exact h
  | _ => intro q us hk h; exact h.elim

theorem SV.mv_self {R : Cx} {A B : Key} (hl : A.lv = B.lv) {v : AV} {u : Value} (hk : ∀ T, v.hits A T → R.fl T.lv T.s T.bx = true → ¬ T.under B) (h : SV R v A u) : SV (R.mv A B) v B u := by
  cases v with
  | tup x => obtain ⟨vs, rfl, h⟩ := h; exact ⟨vs, rfl, TupR.mv_self hl (q := []) hk h⟩
  | _ => exact VV.mv_self (u := u) hl (q := []) hk h

/-! ### A state in memory -/

/-- Where a run began: the world, and what was frozen there. -/
structure Base extends World where
  Z0 : Nat → Prop
  gl : GOk toWorld

structure Rel (w0 : Base) (st : St) (ts : List (Array Value)) (R : Cx) (w : World) : Prop where
  hh : R.h = w.heap
  fl : ∀ lv s bx, R.fl lv s bx = st.fl lv s bx
  len : st.length = ts.length
  sz : ∀ (i : Nat) (f : Frm) (t : Array Value), st[i]? = some f → ts[i]? = some t → f.length = t.size
  slot : ∀ (i s : Nat) (sl : Slot) (t : Array Value), st.get i s = some sl → ts[i]? = some t → SV R sl.v (st.kv i s) (t.getD s undef)
  box : ∀ i s sl, st.get i s = some sl → BoxR R sl.b (st.kb i s)
  inj : R.Inj
  zd : ∀ b, R.Z b → ∀ K n, R.ρ K ≠ some (.blk b n)
  lo : ∀ K b n, R.ρ K = some (.blk b n) → w0.heap.size ≤ b
  lt : ∀ K b n, R.ρ K = some (.blk b n) → b < w.heap.size
  zlt : ∀ b, R.Z b → b < w.heap.size
  bel : RowKit.Below w0.heap.size w0.toWorld w
  zlo : ∀ b, R.Z b → w0.Z0 b ∨ w0.heap.size ≤ b

theorem Rel.lv_lt {w0 : Base} {st : St} {ts : List (Array Value)} {R : Cx} {w : World} (h : Rel w0 st ts R w) {i s : Nat} {sl : Slot} (hg : st.get i s = some sl) : i < st.length := by
  simp only [St.get] at hg
  cases e : st[i]? with
  | none => simp [e] at hg
  | some f => exact (List.getElem?_eq_some_iff.1 e).1

/-- The key of a hand: a slot behind the frame's last one. -/
def St.hand (st : St) (j : Nat) : Key := ⟨st.length - 1, (st.headD []).length + j, false, []⟩

theorem St.fl_hand (st : St) (j : Nat) (bx : Bool) : st.fl (st.length - 1) ((st.headD []).length + j) bx = false := by
  simp only [St.fl]
  cases st with
  | nil => simp
  | cons f o =>
    have : (St.get (f :: o) ((f :: o).length - 1 - ((f :: o).length - 1)) ((List.headD (f :: o) []).length + j)) = none := by
      simp [St.get]
    rw [this]; simp

end Go.Proofs.Ytlndfmmigndgeaa.Ev

/- Moves of states: a slot is set, a value is taken into a hand, a hand is emptied into a slot, memory grows. -/
namespace Go.Proofs.Ytlndfmmigndgeaa.Ev
open Go
set_option linter.unusedSimpArgs false
set_option linter.unusedVariables false

/-- A value held at K stays good, some views of it struck. -/
def Cx.Ok (R R' : Cx) (K : Key) (b : AV) : Prop := R.Frame R' K ∧ ∀ T, b.hits K T → R.fl T.lv T.s T.bx = true → R'.fl T.lv T.s T.bx = true ∧ R.Keeps R' T

theorem Rel.step1 {w0 : Base} {st st' : St} {t0 t0' : Array Value} {ts : List (Array Value)} {R R' : Cx} {w w' : World} (h : Rel w0 st (t0 :: ts) R w)
    (hlen : st'.length = st.length) (hfr : ∀ i : Nat, (st'[i]?).map List.length = (st[i]?).map List.length) (ht : t0'.size = t0.size)
    (hh : R'.h = w'.heap) (hfl : ∀ lv s bx, R'.fl lv s bx = st'.fl lv s bx)
    (hv : ∀ i s sl', st'.get i s = some sl' → ∃ sl, st.get i s = some sl ∧ ((sl'.v.le sl.v ∧ (i = 0 → t0'.getD s undef = t0.getD s undef) ∧ R.Ok R' (st.kv i s) sl'.v) ∨ (i = 0 ∧ SV R' sl'.v (st.kv 0 s) (t0'.getD s undef))))
    (hb : ∀ i s sl', st'.get i s = some sl' → ∃ sl, st.get i s = some sl ∧ ((sl'.b.le sl.b ∧ R.Ok R' (st.kb i s) sl'.b) ∨ BoxR R' sl'.b (st.kb i s)))
    (inj : R'.Inj) (zd : ∀ b, R'.Z b → ∀ K n, R'.ρ K ≠ some (.blk b n)) (lo : ∀ K b n, R'.ρ K = some (.blk b n) → w0.heap.size ≤ b)
    (lt : ∀ K b n, R'.ρ K = some (.blk b n) → b < w'.heap.size) (zlt : ∀ b, R'.Z b → b < w'.heap.size) (bel : RowKit.Below w0.heap.size w0.toWorld w') (hz' : ∀ b, R'.Z b → R.Z b ∨ w0.heap.size ≤ b := by exact fun _ hb => .inl hb) : Rel w0 st' (t0' :: ts) R' w' := by
  have kv : ∀ i s, st'.kv i s = st.kv i s := by intro i s; simp [St.kv, hlen]
  have kb : ∀ i s, st'.kb i s = st.kb i s := by intro i s; simp [St.kb, hlen]
  refine ⟨hh, hfl, by rw [hlen, h.len]; rfl, ?_, ?_, ?_, inj, zd, lo, lt, zlt, bel, (fun b hb => (hz' b hb).elim (h.zlo b) .inr)⟩
  · intro i f t hf ht'
    have hm := hfr i
    rw [hf] at hm
    cases hs : st[i]? with
    | none => rw [hs] at hm; simp at hm
    | some g =>
      rw [hs] at hm
      simp only [Option.map_some, Option.some.injEq] at hm
      cases i with
      | zero =>
        simp only [List.getElem?_cons_zero, Option.some.injEq] at ht'
        subst ht'
        rw [hm, ht]
        exact h.sz 0 g t0 hs rfl
      | succ i =>
        rw [hm]
        exact h.sz (i + 1) g t hs ht'
  · intro i s sl' t hg ht'
    obtain ⟨sl, hsl, hc⟩ := hv i s sl' hg
    rw [kv]
    rcases hc with ⟨hle, hsame, hok⟩ | ⟨rfl, hsv⟩
    · cases i with
      | zero =>
        simp only [List.getElem?_cons_zero, Option.some.injEq] at ht'
        subst ht'
        rw [hsame rfl]
        exact SV.frame hle hok.1 hok.2 (h.slot 0 s sl t0 hsl rfl)
      | succ i => exact SV.frame hle hok.1 hok.2 (h.slot (i + 1) s sl t hsl ht')
    · simp only [List.getElem?_cons_zero, Option.some.injEq] at ht'
      subst ht'
      exact hsv
  · intro i s sl' hg
    obtain ⟨sl, hsl, hc⟩ := hb i s sl' hg
    rw [kb]
    rcases hc with ⟨hle, hok⟩ | hbx
    · exact BoxR.frame hle hok.1 hok.2 (h.box i s sl hsl)
    · exact hbx

theorem Cx.Frame.refl (R : Cx) (K : Key) : R.Frame R K := ⟨fun _ => id, fun _ _ _ => id, fun _ _ => rfl, fun _ _ _ _ _ _ => id⟩
theorem Cx.Keeps.refl (R : Cx) (K : Key) : R.Keeps R K := .inr ⟨rfl, fun b n arr el _ e => ⟨arr, e, rfl⟩⟩
theorem Cx.Ok.refl (R : Cx) (K : Key) (b : AV) : R.Ok R K b := ⟨.refl R K, fun T _ hf => ⟨hf, .refl R T⟩⟩

theorem St.frames_set (st : St) (k s : Nat) (v : Slot) (i : Nat) : ((st.set k s v)[i]?).map List.length = (st[i]?).map List.length := by
  simp only [St.set, List.getElem?_modify]
  by_cases h : k = i
  · subst h; cases st[k]? <;> simp
  · simp [h]

theorem St.frames_scrub (st : St) (s : Nat) (bx : Bool) (p : List Stp) (i : Nat) : ((st.scrub s bx p)[i]?).map List.length = (st[i]?).map List.length := by
  cases st with
  | nil => rfl
  | cons f o => cases i <;> simp [St.scrub]

theorem getD_set (t : Array Value) (i j : Nat) (v d : Value) : (t.setIfInBounds i v).getD j d = if j = i ∧ i < t.size then v else t.getD j d := by
  simp only [Array.getD_eq_getD_getElem?, Array.getElem?_setIfInBounds]
  by_cases h : i = j
  · subst h
    by_cases hl : i < t.size
    · simp [hl]
    · simp [hl]
  · have : ¬ j = i := fun e => h e.symm
    simp [h, this]

theorem St.fl_set_same {st : St} {k s : Nat} {v u : Slot} (hg : st.get k s = some u) (h : ∀ bx, v.flag bx = u.flag bx) (lv n : Nat) (bx : Bool) : (st.set k s v).fl lv n bx = st.fl lv n bx := by
  simp only [St.fl, St.length_set, St.get_set]
  by_cases hc : st.length - 1 - lv = k ∧ n = s
  · obtain ⟨h1, rfl⟩ := hc
    rw [if_pos ⟨h1, rfl⟩, h1, hg]; simp [h]
  · rw [if_neg hc]

theorem Rel.size_lt {w0 : Base} {st : St} {t0 : Array Value} {ts : List (Array Value)} {R : Cx} {w : World} (h : Rel w0 st (t0 :: ts) R w) {s : Nat} {sl : Slot} (hg : st.get 0 s = some sl) : s < t0.size := by
  simp only [St.get] at hg
  cases e : st[0]? with
  | none => simp [e] at hg
  | some f =>
    simp only [e, Option.bind_some] at hg
    rw [← h.sz 0 f t0 e rfl]
    exact (List.getElem?_eq_some_iff.1 hg).1

theorem kv_hand_apart (st : St) (s j : Nat) {sl : Slot} (hg : st.get 0 s = some sl) : (st.kv 0 s).apart (st.hand j) := by
  refine Key.apart_reg ?_
  rintro ⟨_, h2, _⟩
  simp only [St.kv, St.hand] at h2
  cases st with
  | nil => simp [St.get] at hg
  | cons f o =>
    simp only [St.get, List.getElem?_cons_zero, Option.bind_some] at hg
    have := (List.getElem?_eq_some_iff.1 hg).1
    simp at h2; omega

/-- A slot gets a value that stands in memory. -/
theorem Rel.put {w0 : Base} {st : St} {t0 : Array Value} {ts : List (Array Value)} {R : Cx} {w : World} (h : Rel w0 st (t0 :: ts) R w) {t : Nat} {s : Slot} (hg : st.get 0 t = some s) {v : AV} {val : Value}
    (hv : SV R v (st.kv 0 t) val) : Rel w0 (st.set 0 t { s with v := v }) (t0.setIfInBounds t val :: ts) R w := by
  have hlt := h.size_lt hg
  refine h.step1 (St.length_set ..) (fun i => St.frames_set ..) (by simp) h.hh ?_ ?_ ?_ h.inj h.zd h.lo h.lt h.zlt h.bel
  · intro lv n bx; rw [h.fl, St.fl_set_same hg (fun bx => by cases bx <;> rfl)]
  · intro i n sl' hsl
    rw [St.get_set] at hsl
    split at hsl
    · rename_i hc
      obtain ⟨rfl, rfl⟩ := hc
      simp only [hg, Option.map_some, Option.some.injEq] at hsl
      subst hsl
      exact ⟨s, hg, .inr ⟨rfl, by rw [getD_set, if_pos ⟨rfl, hlt⟩]; exact hv⟩⟩
    · rename_i hc
      refine ⟨sl', hsl, .inl ⟨AV.le_refl _, ?_, .refl _ _ _⟩⟩
      intro hi; rw [getD_set, if_neg]; rintro ⟨h1, _⟩; exact hc ⟨hi, h1⟩
  · intro i n sl' hsl
    rw [St.get_set] at hsl
    split at hsl
    · rename_i hc
      obtain ⟨rfl, rfl⟩ := hc
      simp only [hg, Option.map_some, Option.some.injEq] at hsl
      subst hsl
      exact ⟨s, hg, .inl ⟨AV.le_refl _, .refl _ _ _⟩⟩
    · exact ⟨sl', hsl, .inl ⟨AV.le_refl _, .refl _ _ _⟩⟩

/-- A slot's value is forgotten. -/
theorem Rel.forget {w0 : Base} {st : St} {t0 : Array Value} {ts : List (Array Value)} {R : Cx} {w : World} (h : Rel w0 st (t0 :: ts) R w) {t : Nat} {s : Slot} (hg : st.get 0 t = some s) :
    Rel w0 (st.set 0 t { s with v := .undef }) (t0 :: ts) R w := by
  have := h.put hg (v := .undef) (val := t0.getD t undef) trivial
  have e : t0.setIfInBounds t (t0.getD t undef) = t0 := by
    apply Array.ext_getElem?
    intro i
    rw [Array.getElem?_setIfInBounds]
    by_cases hc : t = i
    · subst hc
      by_cases hl : t < t0.size
      · simp [hl]
      · simp [hl]
    · simp [hc]
  rwa [e] at this

end Go.Proofs.Ytlndfmmigndgeaa.Ev

/- Taking and giving. -/
namespace Go.Proofs.Ytlndfmmigndgeaa.Ev
open Go
set_option linter.unusedSimpArgs false
set_option linter.unusedVariables false

theorem Cx.ok_mv {R : Cx} {A B K : Key} (b : AV) (h1 : K.apart A) (h2 : K.apart B) (h3 : ∀ T, b.hits K T → R.fl T.lv T.s T.bx = true → ¬ T.under B) : R.Ok (R.mv A B) K b :=
  ⟨⟨fun _ => id, fun _ _ _ => id, fun T hT => R.mv_off (h1 T hT) (h2 T hT), fun _ _ _ _ _ _ => id⟩, fun T hT hf => ⟨hf, Cx.keeps_mv (h3 T hT hf)⟩⟩

theorem Cx.mv_facts {R : Cx} {A B : Key} {w0 : Base} {w : World} (hz : ∀ b, R.Z b → ∀ K n, R.ρ K ≠ some (.blk b n)) (hlo : ∀ K b n, R.ρ K = some (.blk b n) → w0.heap.size ≤ b)
    (hlt : ∀ K b n, R.ρ K = some (.blk b n) → b < w.heap.size) :
    (∀ b, (R.mv A B).Z b → ∀ K n, (R.mv A B).ρ K ≠ some (.blk b n)) ∧ (∀ K b n, (R.mv A B).ρ K = some (.blk b n) → w0.heap.size ≤ b) ∧ (∀ K b n, (R.mv A B).ρ K = some (.blk b n) → b < w.heap.size) :=
  ⟨fun b hb K n e => let ⟨K', e', _⟩ := Cx.mv_some e; hz b hb K' n e', fun K b n e => let ⟨K', e', _⟩ := Cx.mv_some e; hlo K' b n e', fun K b n e => let ⟨K', e', _⟩ := Cx.mv_some e; hlt K' b n e'⟩

theorem fl_under {R : Cx} {T B : Key} (h : T.under B) : R.fl T.lv T.s T.bx = R.fl B.lv B.s B.bx := by rw [h.1, h.2.1, h.2.2.1]

theorem kv_apart {st : St} {i n j m : Nat} (hi : i < st.length) (hj : j < st.length) (h : ¬ (i = j ∧ n = m)) : (st.kv i n).apart (st.kv j m) := by
  refine Key.apart_reg ?_
  rintro ⟨h1, h2, _⟩
  simp only [St.kv] at h1 h2
  exact h ⟨by omega, h2⟩

theorem kb_kv_apart (st : St) (i n j m : Nat) : (st.kb i n).apart (st.kv j m) := Key.apart_reg (by rintro ⟨_, _, h⟩; simp [St.kb, St.kv] at h)
theorem kb_hand_apart (st : St) (i n j : Nat) : (st.kb i n).apart (st.hand j) := Key.apart_reg (by rintro ⟨_, _, h⟩; simp [St.kb, St.hand] at h)
theorem hand_apart (st : St) {i j : Nat} (h : i ≠ j) : (st.hand i).apart (st.hand j) := Key.apart_reg (by rintro ⟨_, h2, _⟩; simp [St.hand] at h2; exact h h2)

theorem St.get_lt {st : St} {i s : Nat} {sl : Slot} (hg : st.get i s = some sl) : i < st.length := by
  simp only [St.get] at hg
  cases e : st[i]? with
  | none => simp [e] at hg
  | some f => exact (List.getElem?_eq_some_iff.1 e).1

theorem kv_hand_apart' (st : St) {i s : Nat} (j : Nat) {sl : Slot} (hg : st.get i s = some sl) : (st.kv i s).apart (st.hand j) := by
  cases i with
  | zero => exact kv_hand_apart st s j hg
  | succ i =>
    have := St.get_lt hg
    refine Key.apart_reg ?_
    rintro ⟨h1, _, _⟩
    simp only [St.kv, St.hand] at h1
    omega

theorem Rel.fl_hand {w0 : Base} {st : St} {ts : List (Array Value)} {R : Cx} {w : World} (h : Rel w0 st ts R w) (j : Nat) (bx : Bool) : R.fl (st.hand j).lv (st.hand j).s bx = false := by
  rw [h.fl]; exact St.fl_hand st j bx

/-- The slot is empty: what its key tells may go into a hand. -/
theorem Rel.mvAway {w0 : Base} {st : St} {t0 : Array Value} {ts : List (Array Value)} {R : Cx} {w : World} (h : Rel w0 st (t0 :: ts) R w) {t : Nat} {s : Slot} (hg : st.get 0 t = some s) (hu : s.v = .undef) (j : Nat) :
    Rel w0 st (t0 :: ts) (R.mv (st.kv 0 t) (st.hand j)) w := by
  obtain ⟨f1, f2, f3⟩ := Cx.mv_facts (A := st.kv 0 t) (B := st.hand j) h.zd h.lo h.lt
  have hf : ∀ T : Key, R.fl T.lv T.s T.bx = true → ¬ T.under (st.hand j) := by
    intro T e hT; rw [fl_under hT, h.fl_hand] at e; simp at e
  refine h.step1 rfl (fun _ => rfl) rfl h.hh h.fl ?_ ?_ (h.inj.mv _ _) f1 f2 f3 h.zlt h.bel
  · intro i n sl hsl
    by_cases hc : i = 0 ∧ n = t
    · obtain ⟨rfl, rfl⟩ := hc
      rw [hg, Option.some.injEq] at hsl
      subst hsl
      exact ⟨s, hg, .inr ⟨rfl, by rw [hu]; trivial⟩⟩
    · exact ⟨sl, hsl, .inl ⟨AV.le_refl _, fun _ => rfl, Cx.ok_mv _ (kv_apart (St.get_lt hsl) (St.get_lt hg) hc) (kv_hand_apart' st j hsl) (fun T _ e => hf T e)⟩⟩
  · intro i n sl hsl
    exact ⟨sl, hsl, .inl ⟨AV.le_refl _, Cx.ok_mv _ (kb_kv_apart _ _ _ _ _) (kb_hand_apart _ _ _ _) (fun T _ e => hf T e)⟩⟩

/-- A slot's value into a hand. -/
theorem Rel.take {w0 : Base} {st : St} {t0 : Array Value} {ts : List (Array Value)} {R : Cx} {w : World} (h : Rel w0 st (t0 :: ts) R w) {t : Nat} {s : Slot} (hg : st.get 0 t = some s) (j : Nat) :
    Rel w0 (st.set 0 t { s with v := .undef }) (t0 :: ts) (R.mv (st.kv 0 t) (st.hand j)) w ∧ SV (R.mv (st.kv 0 t) (st.hand j)) s.v (st.hand j) (t0.getD t undef) := by
  have h1 := h.forget hg
  have hh : (st.set 0 t { s with v := .undef }).hand j = st.hand j := by
    simp only [St.hand, St.length_set]
    cases st with
    | nil => rfl
    | cons f o => simp [St.set, List.headD]
  have hk : (st.set 0 t { s with v := .undef }).kv 0 t = st.kv 0 t := by simp [St.kv, St.length_set]
  have h2 := h1.mvAway (t := t) (s := { s with v := .undef }) (by rw [St.get_set, if_pos ⟨rfl, rfl⟩, hg]; rfl) rfl j
  rw [hh, hk] at h2
  refine ⟨h2, SV.mv_self (A := st.kv 0 t) (B := st.hand j) rfl ?_ (h.slot 0 t s t0 hg rfl)⟩
  intro T _ e hT
  rw [fl_under hT, h.fl_hand] at e
  simp at e

/-- A hand into a temporary, which nobody views. -/
theorem Rel.give {w0 : Base} {st : St} {t0 : Array Value} {ts : List (Array Value)} {R : Cx} {w : World} (h : Rel w0 st (t0 :: ts) R w) {t : Nat} {s : Slot} (hg : st.get 0 t = some s) (hf : s.fv = false) {j : Nat} {v : AV} {val : Value}
    (hv : SV R v (st.hand j) val) : Rel w0 (st.set 0 t { s with v := v }) (t0.setIfInBounds t val :: ts) (R.mv (st.hand j) (st.kv 0 t)) w := by
  have hlt := h.size_lt hg
  have hN : 0 < st.length := St.get_lt hg
  have hfl : ∀ T : Key, R.fl T.lv T.s T.bx = true → ¬ T.under (st.kv 0 t) := by
    intro T e hT
    rw [fl_under hT, h.fl] at e
    simp only [St.fl, St.kv, Nat.sub_zero, Nat.sub_self, hg, Slot.flag, hf] at e
    simp at e
  obtain ⟨f1, f2, f3⟩ := Cx.mv_facts (A := st.hand j) (B := st.kv 0 t) h.zd h.lo h.lt
  refine h.step1 (St.length_set ..) (fun i => St.frames_set ..) (by simp) h.hh ?_ ?_ ?_ (h.inj.mv _ _) f1 f2 f3 h.zlt h.bel
  · intro lv n bx; show R.fl lv n bx = _; rw [h.fl, St.fl_set_same hg (fun bx => by cases bx <;> rfl)]
  · intro i n sl' hsl
    rw [St.get_set] at hsl
    split at hsl
    · rename_i hc
      obtain ⟨rfl, rfl⟩ := hc
      simp only [hg, Option.map_some, Option.some.injEq] at hsl
      subst hsl
      exact ⟨s, hg, .inr ⟨rfl, by rw [getD_set, if_pos ⟨rfl, hlt⟩]; exact SV.mv_self (A := st.hand j) (B := st.kv 0 n) rfl (fun T _ e => hfl T e) hv⟩⟩
    · rename_i hc
      refine ⟨sl', hsl, .inl ⟨AV.le_refl _, ?_, Cx.ok_mv _ (kv_hand_apart' st j hsl) (kv_apart (St.get_lt hsl) hN hc) (fun T _ e => hfl T e)⟩⟩
      intro hi; rw [getD_set, if_neg]; rintro ⟨h1, _⟩; exact hc ⟨hi, h1⟩
  · intro i n sl' hsl
    rw [St.get_set] at hsl
    split at hsl
    · rename_i hc
      obtain ⟨rfl, rfl⟩ := hc
      simp only [hg, Option.map_some, Option.some.injEq] at hsl
      subst hsl
      exact ⟨s, hg, .inl ⟨AV.le_refl _, Cx.ok_mv _ (kb_hand_apart _ _ _ _) (kb_kv_apart _ _ _ _ _) (fun T _ e => hfl T e)⟩⟩
    · exact ⟨sl', hsl, .inl ⟨AV.le_refl _, Cx.ok_mv _ (kb_hand_apart _ _ _ _) (kb_kv_apart _ _ _ _ _) (fun T _ e => hfl T e)⟩⟩

theorem under_suffix {p q : List Stp} : under p q = true ↔ q <:+ p := by
  unfold under
  rw [Bool.and_eq_true, List.isSuffixOf_iff_suffix]
  exact ⟨fun h => h.2, fun h => ⟨Nat.ble_eq_true_of_le h.length_le, h⟩⟩

/-- Struck views are not of what lies under the place. -/
theorem scrub_hits {N s : Nat} {bx : Bool} {p : List Stp} : ∀ {a : AV} {K T : Key}, K.lv = N → (a.scrub ⟨0, s, bx⟩ p).hits K T → ¬ T.under ⟨N, s, bx, p⟩ := by
  intro a
  induction a with
  | vw q e =>
    intro K T hl h hu
    simp only [AV.scrub] at h
    split at h
    · exact h
    · rename_i hc
      obtain ⟨rfl, hk⟩ := h
      obtain ⟨h1, h2, h3, h4⟩ := hu
      simp only [Key.at] at h1 h2 h3 h4
      refine hc ⟨?_, under_suffix.2 h4⟩
      cases q with | mk r p' => cases r with | mk k s' b' =>
      simp only at h1 h2 h3 hk
      rw [Reg.mk.injEq]; exact ⟨by omega, h2, h3⟩
  | sub q e lo n =>
    intro K T hl h hu
    simp only [AV.scrub] at h
    split at h
    · exact h
    · rename_i hc
      obtain ⟨rfl, hk⟩ := h
      obtain ⟨h1, h2, h3, h4⟩ := hu
      simp only [Key.at] at h1 h2 h3 h4
      refine hc ⟨?_, under_suffix.2 h4⟩
      cases q with | mk r p' => cases r with | mk k s' b' =>
      simp only at h1 h2 h3 hk
      rw [Reg.mk.injEq]; exact ⟨by omega, h2, h3⟩
  | ptr q =>
    intro K T hl h hu
    simp only [AV.scrub] at h
    split at h
    · exact h
    · rename_i hc
      obtain ⟨rfl, hk⟩ := h
      obtain ⟨h1, h2, h3, h4⟩ := hu
      simp only [Key.at, Key.node] at h1 h2 h3 h4
      refine hc ⟨?_, under_suffix.2 h4⟩
      cases q with | mk r p' => cases r with | mk k s' b' =>
      simp only at h1 h2 h3 hk
      rw [Reg.mk.injEq]; exact ⟨by omega, h2, h3⟩
  | pair a b iha ihb =>
    intro K T hl h
    rcases h with h | h
    · exact iha hl h
    · exact ihb hl h
  | tup a ih => intro K T hl h; exact ih hl h
  | fn f a ih => intro K T hl h; exact ih hl h
  | _ => intro K T hl h; exact h.elim

/-- Views reach no inner frames. -/
theorem hits_lv_le : ∀ {a : AV} {K T : Key}, a.hits K T → T.lv ≤ K.lv := by
  intro a
  induction a with
  | vw q e => intro K T h; obtain ⟨rfl, _⟩ := h; simp [Key.at]
  | sub q e lo n => intro K T h; obtain ⟨rfl, _⟩ := h; simp [Key.at]
  | ptr q => intro K T h; obtain ⟨rfl, _⟩ := h; simp [Key.at, Key.node]
  | pair a b iha ihb => intro K T h; rcases h with h | h; exact iha h; exact ihb h
  | tup a ih => intro K T h; exact ih h
  | fn f a ih => intro K T h; exact ih h
  | _ => intro K T h; exact h.elim

theorem scrub_own {r : Reg} {p : List Stp} {a : AV} : (a.scrub r p).hasOwn = a.hasOwn := by
  induction a with
  | pair a b iha ihb => simp only [AV.scrub, AV.hasOwn, iha, ihb]
  | tup a ih => simp only [AV.scrub, AV.hasOwn, ih]
  | vw q e => simp only [AV.scrub]; split <;> rfl
  | sub q e lo n => simp only [AV.scrub]; split <;> rfl
  | ptr q => simp only [AV.scrub]; split <;> rfl
  | _ => rfl

theorem Slot.flag_scrub (r : Reg) (p : List Stp) (s : Slot) (bx : Bool) : (s.scrub r p).flag bx = s.flag bx := by cases bx <;> rfl

theorem St.fl_scrub (st : St) (s : Nat) (bx : Bool) (p : List Stp) (lv n : Nat) (b : Bool) : (st.scrub s bx p).fl lv n b = st.fl lv n b := by
  simp only [St.fl, St.length_scrub, St.get_scrub]
  by_cases h : st.length - 1 - lv = 0
  · rw [if_pos h, h]
    cases st.get 0 n <;> simp [Slot.flag_scrub]
  · rw [if_neg h]

/-- What a scrubbed state's values hit. -/
theorem scrub_slot_hits {st : St} {s : Nat} {bx : Bool} {p : List Stp} {i n : Nat} {sl : Slot} (hsl : (st.scrub s bx p).get i n = some sl) :
    ∃ sl0, st.get i n = some sl0 ∧ sl.v.le sl0.v ∧ sl.b.le sl0.b ∧ (∀ T, sl.v.hits (st.kv i n) T → ¬ T.under ⟨st.length - 1, s, bx, p⟩) ∧ (∀ T, sl.b.hits (st.kb i n) T → ¬ T.under ⟨st.length - 1, s, bx, p⟩) := by
  rw [St.get_scrub] at hsl
  split at hsl
  · rename_i hi
    subst hi
    cases hg : st.get 0 n with
    | none => rw [hg] at hsl; simp at hsl
    | some sl0 =>
      rw [hg] at hsl
      simp only [Option.map_some, Option.some.injEq] at hsl
      subst hsl
      exact ⟨sl0, rfl, AV.scrub_le _ _ _, AV.scrub_le _ _ _, fun T hT => scrub_hits (by simp [St.kv]) hT, fun T hT => scrub_hits (by simp [St.kb]) hT⟩
  · rename_i hi
    have := St.get_lt hsl
    refine ⟨sl, hsl, AV.le_refl _, AV.le_refl _, ?_, ?_⟩
    · intro T hT hu
      have h1 := hits_lv_le hT
      have h2 := hu.1
      simp only [St.kv] at h1
      simp only at h2
      omega
    · intro T hT hu
      have h1 := hits_lv_le hT
      have h2 := hu.1
      simp only [St.kb] at h1
      simp only at h2
      omega

/-- A hand into a variable: views of what was there are struck. -/
theorem Rel.giveV {w0 : Base} {st : St} {t0 : Array Value} {ts : List (Array Value)} {R : Cx} {w : World} (h : Rel w0 st (t0 :: ts) R w) {t : Nat} {s : Slot} (hg : (st.scrub t false []).get 0 t = some s) {j : Nat} {v : AV} {val : Value}
    (hv : SV R (v.scrub ⟨0, t, false⟩ []) (st.hand j) val) :
    ∃ R', Rel w0 ((st.scrub t false []).set 0 t { s with v := v.scrub ⟨0, t, false⟩ [], fv := true }) (t0.setIfInBounds t val :: ts) R' w := by
  obtain ⟨sg, hsg, _, hbg, _, _⟩ := scrub_slot_hits hg
  have hlt := h.size_lt hsg
  have hN : 0 < st.length := St.get_lt hsg
  have hB : st.kv 0 t = ⟨st.length - 1, t, false, []⟩ := by simp [St.kv]
  obtain ⟨f1, f2, f3⟩ := Cx.mv_facts (A := st.hand j) (B := st.kv 0 t) h.zd h.lo h.lt
  let st' := (st.scrub t false []).set 0 t { s with v := v.scrub ⟨0, t, false⟩ [], fv := true }
  let R' : Cx := { R.mv (st.hand j) (st.kv 0 t) with fl := st'.fl }
  have flmono : ∀ lv n bx, R.fl lv n bx = true → st'.fl lv n bx = true := by
    intro lv n bx e
    rw [h.fl, ← St.fl_scrub st t false [] lv n bx] at e
    simp only [St.fl, st', St.length_set, St.get_set] at e ⊢
    by_cases hc : (st.scrub t false []).length - 1 - lv = 0 ∧ n = t
    · rw [if_pos hc, hg]
      obtain ⟨hc1, rfl⟩ := hc
      rw [hc1, hg] at e
      simp only [Option.map_some]
      cases bx
      · simp only [Slot.flag, Bool.and_eq_true] at e ⊢; exact ⟨e.1, rfl⟩
      · simp only [Slot.flag] at e ⊢; exact e
    · rw [if_neg hc]; exact e
  have ok : ∀ K b, K.apart (st.hand j) → K.apart (st.kv 0 t) → (∀ T, b.hits K T → ¬ T.under (st.kv 0 t)) → R.Ok R' K b := by
    intro K b h1 h2 h3
    obtain ⟨q1, q2⟩ := Cx.ok_mv (R := R) b h1 h2 (fun T hT _ => h3 T hT)
    exact ⟨⟨q1.hz, q1.hh, q1.hown, q1.hblk⟩, fun T hT e => ⟨flmono _ _ _ e, (q2 T hT e).2⟩⟩
  refine ⟨R', h.step1 (st' := st') (R' := R') (by simp [st', St.length_set, St.length_scrub]) (fun i => by simp only [st', St.frames_set, St.frames_scrub]) (by simp) h.hh (fun _ _ _ => rfl) ?_ ?_ (h.inj.mv _ _) f1 f2 f3 h.zlt h.bel⟩
  · intro i n sl' hsl
    simp only [st', St.get_set] at hsl
    split at hsl
    · rename_i hc
      obtain ⟨rfl, rfl⟩ := hc
      simp only [hg, Option.map_some, Option.some.injEq] at hsl
      subst hsl
      refine ⟨sg, hsg, .inr ⟨rfl, ?_⟩⟩
      rw [getD_set, if_pos ⟨rfl, hlt⟩]
      have hm : SV (R.mv (st.hand j) (st.kv 0 n)) (v.scrub ⟨0, n, false⟩ []) (st.kv 0 n) val := SV.mv_self (A := st.hand j) (B := st.kv 0 n) rfl (fun T hT _ => by rw [hB]; exact scrub_hits (by simp [St.hand]) hT) hv
      exact SV.frame (R := R.mv (st.hand j) (st.kv 0 n)) (AV.le_refl _) ⟨fun _ => id, fun _ _ _ => id, fun _ _ => rfl, fun _ _ _ _ _ _ => id⟩ (fun T _ e => ⟨flmono T.lv T.s T.bx e, .inr ⟨rfl, fun b n arr el _ e => ⟨arr, e, rfl⟩⟩⟩) hm
    · rename_i hc
      obtain ⟨sl0, h0, hle, _, hh, _⟩ := scrub_slot_hits hsl
      refine ⟨sl0, h0, .inl ⟨hle, ?_, ok _ _ (kv_hand_apart' st j h0) (kv_apart (St.get_lt h0) hN hc) (by rw [hB]; exact hh)⟩⟩
      intro hi; rw [getD_set, if_neg]; rintro ⟨h1, _⟩; exact hc ⟨hi, h1⟩
  · intro i n sl' hsl
    simp only [st', St.get_set] at hsl
    split at hsl
    · rename_i hc
      obtain ⟨rfl, rfl⟩ := hc
      simp only [hg, Option.map_some, Option.some.injEq] at hsl
      subst hsl
      obtain ⟨sl0, h0, _, hle, _, hh⟩ := scrub_slot_hits hg
      exact ⟨sl0, h0, .inl ⟨hle, ok _ _ (kb_hand_apart _ _ _ _) (kb_kv_apart _ _ _ _ _) (by rw [hB]; exact hh)⟩⟩
    · obtain ⟨sl0, h0, _, hle, _, hh⟩ := scrub_slot_hits hsl
      exact ⟨sl0, h0, .inl ⟨hle, ok _ _ (kb_hand_apart _ _ _ _) (kb_kv_apart _ _ _ _ _) (by rw [hB]; exact hh)⟩⟩

end Go.Proofs.Ytlndfmmigndgeaa.Ev

/- Operands and destinations. -/
namespace Go.Proofs.Ytlndfmmigndgeaa.Ev
open Go
set_option linter.unusedSimpArgs false
set_option linter.unusedVariables false

theorem TupR.move {R : Cx} : ∀ {a : AV} {K K' : Key} {vs : List Value}, a.hasOwn = false → K.lv = K'.lv → TupR R a K vs → TupR R a K' vs := by
  intro a
  induction a with
  | pair x y ihx ihy =>
    intro K K' vs ho hl h
    simp only [AV.hasOwn, Bool.or_eq_false_iff] at ho
    obtain ⟨v, r, rfl, h1, h2⟩ := h
    exact ⟨v, r, rfl, VV.move (K := K.child .l) (K' := K'.child .l) ho.1 hl h1, ihy (K := K.child (.r 0)) (K' := K'.child (.r 0)) ho.2 hl h2⟩
  | unit => intro K K' vs _ _ h; exact h
  | _ => intro K K' vs _ _ h; exact h.elim

theorem SV.move {R : Cx} {a : AV} {K K' : Key} {v : Value} (ho : a.hasOwn = false) (hl : K.lv = K'.lv) (h : SV R a K v) : SV R a K' v := by
  cases a with
  | tup x => obtain ⟨vs, rfl, h⟩ := h; exact ⟨vs, rfl, TupR.move ho hl h⟩
  | _ => exact VV.move (R := R) (v := v) ho hl h

theorem St.hand_set (st : St) (k s : Nat) (v : Slot) (j : Nat) : (st.set k s v).hand j = st.hand j := by
  simp only [St.hand, St.length_set]
  cases st with
  | nil => simp [St.set]
  | cons f o => cases k <;> simp [St.set, List.headD]

theorem St.hand_scrub (st : St) (s : Nat) (bx : Bool) (p : List Stp) (j : Nat) : (st.scrub s bx p).hand j = st.hand j := by
  simp only [St.hand, St.length_scrub]
  cases st with
  | nil => rfl
  | cons f o => simp [St.scrub, List.headD]

/-- Values held in other hands stay. -/
def Kept (R R' : Cx) (st : St) (j : Nat) : Prop := ∀ i v val, i ≠ j → SV R v (st.hand i) val → SV R' v (st.hand i) val

theorem Kept.refl (R : Cx) (st : St) (j : Nat) : Kept R R st j := fun _ _ _ _ h => h

theorem SV.mv_other {R : Cx} {A B K : Key} {v : AV} {val : Value} (h1 : K.apart A) (h2 : K.apart B) (hk : ∀ T : Key, R.fl T.lv T.s T.bx = true → ¬ T.under B) (h : SV R v K val) : SV (R.mv A B) v K val := by
  obtain ⟨q1, q2⟩ := Cx.ok_mv (R := R) v h1 h2 (fun T _ e => hk T e)
  exact SV.frame (AV.le_refl _) q1 q2 h

theorem constAV_VR (R : Cx) (K : Key) (c : Value) : SV R (constAV c) K c := by
  cases c with
  | int k n => exact rfl
  | bool b => exact rfl
  | string s => exact rfl
  | slice a n m =>
    cases a with
    | some _ => trivial
    | none =>
      cases n with
      | succ => trivial
      | zero => cases m with
        | succ => trivial
        | zero => exact rfl
  | _ => trivial

theorem constAV_own (c : Value) : (constAV c).hasOwn = false := by
  cases c with
  | slice a n m =>
    cases a with
    | some _ => rfl
    | none => cases n with
      | succ => rfl
      | zero => cases m <;> rfl
  | _ => rfl

theorem getD_eval {a : Act} (t : Nat) : a.eval (.tmp t) = a.tmps.getD t undef := rfl

theorem kv_lv (st : St) (s : Nat) : (st.kv 0 s).lv = st.length - 1 := by simp [St.kv]

/-- An operand as it is. -/
theorem func_DR {Z : Nat → Prop} {h : Array Obj} {f : Nat} : DR Z h (.fn f .unit) () [.func (.func f) #[] #[]] := ⟨#[], [], rfl, rfl, rfl⟩

theorem rawOp_ok {C : Orc} {w0 : Base} {w : World} {st : St} {a : Act} {ts : List (Array Value)} {R : Cx} (h : Rel w0 st (a.tmps :: ts) R w) {x : Operand} {k : AV → St → Prop} (hw : (rawOp x).wp C st k) :
    ∃ v, k v st ∧ (∃ K, K.lv = st.length - 1 ∧ SV R v K (a.eval x)) ∧ (∀ t, x = .tmp t → ∃ s, st.get 0 t = some s ∧ s.v = v ∧ SV R v (st.kv 0 t) (a.eval x)) ∧ ((∀ t, x ≠ .tmp t) → v.hasOwn = false) := by
  cases x with
  | tmp t =>
    rw [rawOp_wp, M.wp_rd] at hw
    obtain ⟨s, hs, hk⟩ := hw
    have hv := h.slot 0 t s _ hs rfl
    exact ⟨s.v, hk, ⟨st.kv 0 t, kv_lv .., hv⟩, fun t' e => by cases e; exact ⟨s, hs, rfl, hv⟩, fun e => absurd rfl (e t)⟩
  | const c => exact ⟨_, hw, ⟨st.hand 0, rfl, constAV_VR _ _ _⟩, (fun t e => by cases e), fun _ => constAV_own c⟩
  | global g => exact hw.elim
  | func f => exact ⟨_, hw, ⟨st.hand 0, rfl, func_DR⟩, (fun t e => by cases e), fun _ => rfl⟩

theorem Key.at_child {K' K : Key} {q : Pl} (h : K'.at q = K) (i : Stp) : K'.at (q.child i) = K.child i := by subst h; rfl

theorem viewOf_size : ∀ (a : AV) (q : Pl), (viewOf q a).size = a.size := by
  intro a
  induction a with
  | pair a b iha ihb => intro q; simp only [viewOf, AV.size, iha, ihb]
  | _ => intro q; rfl

theorem Key.at_lift {K K' : Key} {q u : Pl} (h : K'.at q = K) : K'.at (u.lift q.r.k) = K.at u := by
  subst h; simp only [Key.at, Pl.lift, Key.mk.injEq, and_true]; omega

/-- A view of what stands at a place. -/
theorem viewOf_VR {R : Cx} : ∀ {a : AV} {q : Pl} {K K' : Key} {cs : List Value}, K'.at q = K → q.r.k ≤ K'.lv → (a.hasOwn = true → R.sees K' q) → VR R a K cs → VR R (viewOf q a) K' cs := by
  intro a
  induction a with
  | own e o l =>
    intro q K K' cs hq hle hs h
    simp only [VR, OR] at h
    simp only [viewOf, VR, hq]
    rcases h with ⟨h1, h2, rfl⟩ | ⟨b, cap, arr, el, h1, rfl, h3, h4, h5, _⟩
    · exact ⟨_, rfl, hs rfl, by rw [h1]; rfl⟩
    · exact ⟨_, rfl, hs rfl, by rw [h1]; exact ⟨cap, arr, el, rfl, h3, h4, h5⟩⟩
  | hol e o l i a ih =>
    intro q K K' cs hq hle hs h
    obtain ⟨_, _, _, bk, cap, arr, el, h4, rfl, h5, h6, h7, _⟩ := h
    simp only [viewOf, VR, hq]
    exact ⟨_, rfl, hs rfl, by rw [h4]; exact ⟨cap, arr, el, rfl, h5, h6, h7⟩⟩
  | pair a b iha ihb =>
    intro q K K' cs hq hle hs h
    obtain ⟨c1, c2, rfl, h1, h2⟩ := h
    simp only [AV.hasOwn, Bool.or_eq_true] at hs
    refine ⟨c1, c2, rfl, iha (q := q.child .l) (K := K.child .l) (K' := K'.child .l) (Key.at_child hq _) hle (fun e => hs (.inl e)) h1, ?_⟩
    rw [viewOf_size]
    exact ihb (q := q.child (.r a.size)) (K := K.child (.r a.size)) (K' := K'.child (.r a.size)) (Key.at_child hq _) hle (fun e => hs (.inr e)) h2
  | vw u e =>
    intro q K K' cs hq hle hs h
    obtain ⟨v, rfl, ⟨s1, s2⟩, hv⟩ := h
    have e := Key.at_lift (u := u) hq
    have hl : K.lv = K'.lv - q.r.k := by subst hq; rfl
    refine ⟨v, rfl, ⟨by simp only [Pl.lift]; omega, ?_⟩, by rw [e]; exact hv⟩
    have : K'.lv - (u.lift q.r.k).r.k = K.lv - u.r.k := by simp only [Pl.lift]; omega
    rw [this]; exact s2
  | sub u e lo n =>
    intro q K K' cs hq hle hs h
    obtain ⟨v, rfl, ⟨s1, s2⟩, hv⟩ := h
    have e := Key.at_lift (u := u) hq
    have hl : K.lv = K'.lv - q.r.k := by subst hq; rfl
    refine ⟨v, rfl, ⟨by simp only [Pl.lift]; omega, ?_⟩, by rw [e]; exact hv⟩
    have : K'.lv - (u.lift q.r.k).r.k = K.lv - u.r.k := by simp only [Pl.lift]; omega
    rw [this]; exact s2
  | ptr u =>
    intro q K K' cs hq hle hs h
    obtain ⟨v, rfl, ⟨s1, s2⟩, hv⟩ := h
    have e := Key.at_lift (u := u) hq
    have hl : K.lv = K'.lv - q.r.k := by subst hq; rfl
    refine ⟨v, rfl, ⟨by simp only [Pl.lift]; omega, ?_⟩, by rw [e]; exact hv⟩
    have : K'.lv - (u.lift q.r.k).r.k = K.lv - u.r.k := by simp only [Pl.lift]; omega
    rw [this]; exact s2
  | tup a ih => intro q K K' cs hq hle hs h; exact h.elim
  | fn f a ih => intro q K K' cs hq hle hs h; cases a <;> exact h
  | _ => intro q K K' cs hq hle hs h; exact h

end Go.Proofs.Ytlndfmmigndgeaa.Ev

/- Operands in and out. -/
namespace Go.Proofs.Ytlndfmmigndgeaa.Ev
open Go
set_option linter.unusedSimpArgs false
set_option linter.unusedVariables false

theorem AV.notBad {a : AV} (h : a.isBad = false) : a ≠ .undef ∧ ∀ y, a ≠ .tup y := by
  constructor
  · rintro rfl; simp [AV.isBad] at h
  · rintro y rfl; simp [AV.isBad] at h

theorem viewOf_own (a : AV) : ∀ q : Pl, (viewOf q a).hasOwn = false := by
  induction a with
  | pair a b iha ihb => intro q; simp only [viewOf, AV.hasOwn, iha, ihb, Bool.or_self]
  | _ => intro q; rfl

theorem viewOf_isAgg (a : AV) (q : Pl) : (viewOf q a).isAgg = a.isAgg := by cases a <;> rfl

theorem viewOf_good {a : AV} (q : Pl) (h : a.isBad = false) : (viewOf q a).isBad = false := by cases a <;> simp [viewOf, AV.isBad] at h ⊢

theorem VV_iff {R : Cx} {a : AV} {K : Key} {v : Value} (ha : a ≠ .undef) : VV R a K v ↔ (if a.isAgg then ∃ arr, v = .agg arr ∧ VR R a K arr.toList else VR R a K [v]) := by
  cases a <;> first | exact (ha rfl).elim | rfl

theorem SV_VV {R : Cx} {a : AV} {K : Key} {v : Value} (h : ∀ x, a ≠ .tup x) : SV R a K v ↔ VV R a K v := by
  cases a <;> first | exact (h _ rfl).elim | rfl

/-- A slot's value as a view. -/
theorem viewOf_SV {R : Cx} {a : AV} {q : Pl} {K K' : Key} {v : Value} (hq : K'.at q = K) (hle : q.r.k ≤ K'.lv) (hs : a.hasOwn = true → R.sees K' q) (hb : a.isBad = false) (h : SV R a K v) : SV R (viewOf q a) K' v := by
  obtain ⟨h1, h2⟩ := AV.notBad hb
  obtain ⟨h3, h4⟩ := AV.notBad (viewOf_good q hb)
  rw [SV_VV h2, VV_iff h1] at h
  rw [SV_VV h4, VV_iff h3, viewOf_isAgg]
  split at h
  · rename_i hg; rw [if_pos hg]; obtain ⟨arr, e, h⟩ := h; exact ⟨arr, e, viewOf_VR hq hle hs h⟩
  · rename_i hg; rw [if_neg hg]; exact viewOf_VR hq hle hs h

theorem Rel.fl_slot {w0 : Base} {w : World} {st : St} {ts : List (Array Value)} {R : Cx} (h : Rel w0 st ts R w) {t : Nat} {s : Slot} (hg : st.get 0 t = some s) (bx : Bool) : R.fl (st.length - 1) t bx = s.flag bx := by
  have := St.get_lt hg
  rw [h.fl]; simp only [St.fl, Nat.sub_self, hg]
  simp; omega

theorem hdr_own {s : Slot} {e : Sh} (h : s.hdr = some e) : s.fv = true ∧ ((∃ o l, s.v = .own e o l) ∨ ∃ o l i a, s.v = .hol e o l i a) := by
  unfold Slot.hdr at h
  cases hf : s.fv with
  | false => rw [hf] at h; cases h
  | true =>
    rw [hf] at h
    refine ⟨rfl, ?_⟩
    have h : s.v.hdr = some e := h
    unfold AV.hdr at h
    split at h
    · rename_i e1; cases h; exact .inl ⟨_, _, e1⟩
    · rename_i e1; cases h; exact .inr ⟨_, _, _, _, e1⟩
    · cases h
theorem viewOp_tmp {C : Orc} {t : Nat} {st : St} {k : AV → St → Prop} (hw : (viewOp (.tmp t)).wp C st k) : (lookPl ⟨⟨0, t, false⟩, []⟩).wp C st k := by
  simp only [viewOp, M.wp_hd] at hw
  obtain ⟨s, hs, hw⟩ := hw
  split at hw
  · rename_i e he
    obtain ⟨hf, hv⟩ := hdr_own he
    show LookP st _ _
    rw [LookP_iff]
    refine ⟨s, hs, s.v, rfl, ?_, ?_, ?_⟩
    · rcases hv with ⟨_, _, e⟩ | ⟨_, _, _, _, e⟩ <;> rw [e] <;> rfl
    · show (s.v.hasOwn && !s.fv) = false
      rw [hf]; simp
    · rw [AV.force_eq]
      rcases hv with ⟨_, _, e⟩ | ⟨_, _, _, _, e⟩ <;> rw [e] <;> exact hw
  · exact hw
theorem isTupOp_tmp {C : Orc} {t : Nat} {st : St} {k : Bool → St → Prop} (hw : (isTupOp (.tmp t)).wp C st k) : ∃ s, st.get 0 t = some s ∧ k s.v.isTup st := by
  simp only [isTupOp, M.wp_hd] at hw
  obtain ⟨s, hs, hw⟩ := hw
  split at hw
  · rename_i e he
    obtain ⟨hf, hv⟩ := hdr_own he
    refine ⟨s, hs, ?_⟩
    rcases hv with ⟨_, _, e⟩ | ⟨_, _, _, _, e⟩ <;> rw [e] <;> exact hw
  · rw [M.wp_rd] at hw
    obtain ⟨s2, hs2, hw⟩ := hw
    exact ⟨s2, hs2, hw⟩

theorem viewOp_ok {C : Orc} {w0 : Base} {w : World} {st : St} {a : Act} {ts : List (Array Value)} {R : Cx} (h : Rel w0 st (a.tmps :: ts) R w) {x : Operand} {k : AV → St → Prop} (hw : (viewOp x).wp C st k) :
    ∃ v, k v st ∧ v.hasOwn = false ∧ ∀ K, K.lv = st.length - 1 → SV R v K (a.eval x) := by
  cases x with
  | tmp t =>
    replace hw := viewOp_tmp hw
    rw [lookP_wp] at hw
    simp only [M.wp_rd] at hw
    obtain ⟨s, hs, hk⟩ := hw
    have hv := h.slot 0 t s _ hs rfl
    simp only [Slot.at, List.reverse_nil, AV.part, M.bind] at hk
    by_cases hu : s.v.isBad = true
    · simp only [hu, if_true, Bool.false_eq_true, if_false] at hk; exact hk.elim
    simp only [hu, Bool.false_eq_true, if_false] at hk
    have hu : s.v.isBad = false := by simpa using hu
    by_cases hf : (s.v.hasOwn && !s.flag false) = true
    · rw [if_pos hf] at hk; exact hk.elim
    · rw [if_neg hf] at hk
      refine ⟨_, hk, viewOf_own _ _, fun K hK => ?_⟩
      have hKq : K.at ⟨⟨0, t, false⟩, []⟩ = st.kv 0 t := by simp [Key.at, St.kv, hK]
      refine viewOf_SV hKq (Nat.zero_le _) (fun ho => ⟨Nat.zero_le _, ?_⟩) hu hv
      rw [hK, Nat.sub_zero, h.fl_slot hs]
      simp only [ho, Bool.true_and, Bool.not_eq_true', Bool.not_eq_false] at hf
      exact hf
  | const c => exact ⟨_, hw, constAV_own c, fun K _ => constAV_VR _ _ _⟩
  | global g => exact hw.elim
  | func f => exact ⟨_, hw, rfl, fun K _ => func_DR⟩

theorem takeOp_ok {C : Orc} {w0 : Base} {w : World} {st : St} {a : Act} {ts : List (Array Value)} {R : Cx} (h : Rel w0 st (a.tmps :: ts) R w) {x : Operand} {k : AV → St → Prop} (hw : (takeOp x).wp C st k) (j : Nat) :
    ∃ v st1 R1, k v st1 ∧ Rel w0 st1 (a.tmps :: ts) R1 w ∧ st1.length = st.length ∧ (∀ i, st1.hand i = st.hand i) ∧ Kept R R1 st j ∧ SV R1 v (st.hand j) (a.eval x) := by
  cases x with
  | tmp t =>
    simp only [takeOp, M.wp_rd] at hw
    obtain ⟨s, hs, hk⟩ := hw
    by_cases ho : s.v.hasOwn = true
    · rw [if_pos ho, M.wp_wr] at hk
      obtain ⟨_, hk⟩ := hk
      obtain ⟨h1, h2⟩ := h.take hs j
      refine ⟨_, _, _, hk, h1, St.length_set .., fun i => St.hand_set .., ?_, h2⟩
      intro i v val hij hv
      refine SV.mv_other (Key.apart_symm (kv_hand_apart st t i hs)) (hand_apart st hij) ?_ hv
      intro T e hT; rw [fl_under hT, h.fl_hand] at e; simp at e
    · rw [if_neg ho] at hk
      have ho : s.v.hasOwn = false := by simpa using ho
      exact ⟨_, _, R, hk, h, rfl, fun _ => rfl, Kept.refl _ _ _, SV.move ho (by rw [kv_lv]; rfl) (h.slot 0 t s _ hs rfl)⟩
  | const c => exact ⟨_, _, R, hw, h, rfl, fun _ => rfl, Kept.refl _ _ _, constAV_VR _ _ _⟩
  | global g => exact hw.elim
  | func f => exact ⟨_, _, R, hw, h, rfl, fun _ => rfl, Kept.refl _ _ _, func_DR⟩

theorem Act.put_some {a : Act} {t : Nat} {v : Value} : (a.put (some t) v).tmps = a.tmps.setIfInBounds t v := rfl

/-- A hand goes to the operation's slot. -/
theorem dstT_ok {C : Orc} {w0 : Base} {w : World} {st : St} {a : Act} {ts : List (Array Value)} {R : Cx} (h : Rel w0 st (a.tmps :: ts) R w) {o : Oper} {v : AV} {k : Unit → St → Prop} (hw : (dstT o v).wp C st k) {j : Nat} {val : Value}
    (hv : SV R v (st.hand j) val) : ∃ st1 R1, k () st1 ∧ Rel w0 st1 ((a.put o.dst val).tmps :: ts) R1 w := by
  cases hd : o.dst with
  | none => rw [dstT, hd] at hw; exact ⟨st, R, hw, h⟩
  | some t =>
    rw [dstT, hd] at hw
    simp only [putT, M.wp_rd] at hw
    obtain ⟨s, hs, hk⟩ := hw
    by_cases ho : v.hasOwn = true
    · rw [if_pos ho] at hk
      by_cases hf : s.fv = true
      · rw [if_pos hf] at hk; exact hk.elim
      · rw [if_neg hf, M.wp_wr] at hk
        exact ⟨_, _, hk.2, h.give hs (by simpa using hf) hv⟩
    · rw [if_neg ho, M.wp_wr] at hk
      exact ⟨_, R, hk.2, h.put hs (SV.move (by simpa using ho) (by rw [kv_lv]; rfl) hv)⟩

/-- A hand goes to a variable. -/
theorem putV_ok {C : Orc} {w0 : Base} {w : World} {st : St} {a : Act} {ts : List (Array Value)} {R : Cx} (h : Rel w0 st (a.tmps :: ts) R w) {t : Nat} {v : AV} {k : Unit → St → Prop} (hw : (putV t v).wp C st k) {j : Nat} {val : Value}
    (hv : SV R v (st.hand j) val) : ∃ st1 R1, k () st1 ∧ Rel w0 st1 ((a.put (some t) val).tmps :: ts) R1 w := by
  simp only [putV] at hw
  by_cases ho : v.hasOwn = true
  · rw [if_pos ho] at hw
    have hw : ((M.rd 0 t fun s => .wr 0 t { s with v := v.scrub ⟨0, t, false⟩ [], fv := true } (.pure ())) : M Unit).wp C (st.scrub t false []) k := hw
    rw [M.wp_rd] at hw
    obtain ⟨s, hs, hk⟩ := hw
    rw [M.wp_wr] at hk
    have hv' : SV R (v.scrub ⟨0, t, false⟩ []) (st.hand j) val := SV.frame (AV.scrub_le _ _ _) (.refl _ _) (fun T _ e => ⟨e, .refl _ _⟩) hv
    obtain ⟨R', hR⟩ := h.giveV hs hv'
    exact ⟨_, R', hk.2, hR⟩
  · rw [if_neg ho, M.wp_rd] at hw
    obtain ⟨s, hs, hk⟩ := hw
    rw [M.wp_wr] at hk
    exact ⟨_, R, hk.2, h.put hs (SV.move (by simpa using ho) (by rw [kv_lv]; rfl) hv)⟩

/-- What an operation must do. -/
def OpOk (P : Program) (E : Env) (C : Orc) (o : Oper) : Prop :=
  ∀ (w0 : Base) (st : St) (a : Act) (ts : List (Array Value)) (R : Cx) (w : World) (k : Unit → St → Prop) (next : Act → World → Prop) (Q : Exit → Act → World → Prop),
    Rel w0 st (a.tmps :: ts) R w → (evOp E o).wp C st k →
    (∀ (a' : Act) (st' : St) (R' : Cx) (w' : World), a'.defers = a.defers → Rel w0 st' (a'.tmps :: ts) R' w' → k () st' → next a' w') → o.wp P a w next Q

theorem put_defers (a : Act) (d : Option Tmp) (v : Value) : (a.put d v).defers = a.defers := by cases d <;> rfl

/-- An operation that reads nothing of memory and hands a value on. -/
theorem OpOk.value {P : Program} {o : Oper} {a : Act} {w0 : Base} {w : World} {ts : List (Array Value)} {next : Act → World → Prop} {Q : Exit → Act → World → Prop} {v : Value} {R1 : Cx} {st1 : St} {C : Orc} {k : Unit → St → Prop} {x : AV} {j : Nat}
    (hrun : (execOp a.eval o).run P w = .ok (.value v) w) (h : Rel w0 st1 (a.tmps :: ts) R1 w) (hw : (dstT o x).wp C st1 k) (hv : SV R1 x (st1.hand j) v)
    (hn : ∀ (a' : Act) (st' : St) (R' : Cx) (w' : World), a'.defers = a.defers → Rel w0 st' (a'.tmps :: ts) R' w' → k () st' → next a' w') : o.wp P a w next Q := by
  obtain ⟨st2, R2, hk, h2⟩ := dstT_ok h hw hv
  simp only [Oper.wp, hrun, Oper.upon]
  exact hn _ st2 R2 w (put_defers _ _ _) h2 hk

theorem OpOk.move {P : Program} {E : Env} {C : Orc} {o : Oper} {x : Operand} (ho : o.op = .move x) : OpOk P E C o := by
  intro w0 st a ts R w k next Q h hw hn
  simp only [evOp, ho, M.wp_bind] at hw
  have hrun : (execOp a.eval o).run P w = .ok (.value (a.eval x)) w := by simp only [execOp, ho]; rfl
  have hw : ∃ b : Bool, (if b = true then (takeOp x).bind (dstT o) else (viewOp x).bind (dstT o) : M Unit).wp C st k := by
    cases x with
    | tmp t =>
      obtain ⟨s, _, hw⟩ := isTupOp_tmp hw
      exact ⟨_, hw⟩
    | _ => exact ⟨_, hw⟩
  obtain ⟨b, hw⟩ := hw
  cases b with
  | true =>
    rw [if_pos rfl, M.wp_bind] at hw
    obtain ⟨v, st1, R1, hk, h1, _, hh, _, hv⟩ := takeOp_ok h hw 0
    exact OpOk.value (j := 0) hrun h1 hk (by rw [hh 0]; exact hv) hn
  | false =>
    rw [if_neg (by simp), M.wp_bind] at hw
    obtain ⟨v, hk, _, hv⟩ := viewOp_ok h hw
    exact OpOk.value (j := 0) hrun h hk (hv _ rfl) hn

end Go.Proofs.Ytlndfmmigndgeaa.Ev

/- Hands change; operations that only compute. -/
namespace Go.Proofs.Ytlndfmmigndgeaa.Ev
open Go
set_option linter.unusedSimpArgs false
set_option linter.unusedVariables false

/-- What lies under one hand changes, and with it perhaps the blocks that it owned; memory may grow, more may be frozen. -/
theorem Rel.handStep {w0 : Base} {w w' : World} {st : St} {ts : List (Array Value)} {R R' : Cx} (h : Rel w0 st ts R w) (j : Nat)
    (hρ : ∀ K : Key, ¬ K.under (st.hand j) → R'.ρ K = R.ρ K) (hZ : ∀ b, R.Z b → R'.Z b) (hfl : R'.fl = R.fl) (hh : R'.h = w'.heap)
    (hkeep : ∀ b o, (∀ K n, K.under (st.hand j) → R.ρ K ≠ some (.blk b n)) → w.heap[b]? = some o → w'.heap[b]? = some o)
    (inj : R'.Inj) (zd : ∀ b, R'.Z b → ∀ K n, R'.ρ K ≠ some (.blk b n)) (lo : ∀ K b n, R'.ρ K = some (.blk b n) → w0.heap.size ≤ b)
    (lt : ∀ K b n, R'.ρ K = some (.blk b n) → b < w'.heap.size) (zlt : ∀ b, R'.Z b → b < w'.heap.size) (bel : RowKit.Below w0.heap.size w0.toWorld w') (hz' : ∀ b, R'.Z b → R.Z b ∨ w0.heap.size ≤ b := by exact fun _ hb => .inl hb) :
    Rel w0 st ts R' w' ∧ Kept R R' st j := by
  have keep : ∀ (K : Key), K.apart (st.hand j) → ∀ v : AV, R.Ok R' K v := by
    intro K hK v
    have hown : ∀ T : Key, T.under K → R'.ρ T = R.ρ T := fun T hT => hρ T (hK T hT)
    have hb : ∀ (T : Key) b n o, ¬ T.under (st.hand j) → R.ρ T = some (.blk b n) → R.h[b]? = some o → R'.h[b]? = some o := by
      intro T b n o hT hr ho
      rw [hh]; rw [h.hh] at ho
      refine hkeep b o ?_ ho
      intro K' m hK' e
      exact hT (h.inj _ _ _ _ _ e hr ▸ hK')
    refine ⟨⟨hZ, ?_, hown, fun T b n o hT => hb T b n o (hK T hT)⟩, ?_⟩
    · intro b o hz ho
      rw [hh]; rw [h.hh] at ho
      exact hkeep b o (fun K' m _ => h.zd b hz K' m) ho
    · intro T _ e
      have hT : ¬ T.under (st.hand j) := by intro hT; rw [fl_under hT, h.fl_hand] at e; simp at e
      exact ⟨by rw [hfl]; exact e, .inr ⟨hρ T hT, fun b n arr el hr ho => ⟨arr, hb T b n _ hT hr ho, rfl⟩⟩⟩
  refine ⟨⟨hh, fun lv s bx => by rw [hfl]; exact h.fl lv s bx, h.len, h.sz, ?_, ?_, inj, zd, lo, lt, zlt, bel, (fun b hb => (hz' b hb).elim (h.zlo b) .inr)⟩, ?_⟩
  · intro i s sl t hg ht
    obtain ⟨q1, q2⟩ := keep _ (kv_hand_apart' st j hg) sl.v
    exact SV.frame (AV.le_refl _) q1 q2 (h.slot i s sl t hg ht)
  · intro i s sl hg
    obtain ⟨q1, q2⟩ := keep _ (kb_hand_apart st i s j) sl.b
    exact BoxR.frame (AV.le_refl _) q1 q2 (h.box i s sl hg)
  · intro i v val hij hv
    obtain ⟨q1, q2⟩ := keep _ (hand_apart st hij) v
    exact SV.frame (AV.le_refl _) q1 q2 hv

/-- A bare nil in a hand becomes an owned, empty slice. -/
theorem Rel.nilHand {w0 : Base} {w : World} {st : St} {ts : List (Array Value)} {R : Cx} (h : Rel w0 st ts R w) (j : Nat) (e : Sh) (o : Ow) :
    ∃ R', Rel w0 st ts R' w ∧ Kept R R' st j ∧ VR R' (.own e o []) (st.hand j) [.slice none 0 0] := by
  let R' : Cx := { R with ρ := fun K => if K.under (st.hand j) then (if K = st.hand j then some .nil else none) else R.ρ K }
  have some_blk : ∀ {K b n}, R'.ρ K = some (.blk b n) → R.ρ K = some (.blk b n) := by
    intro K b n e
    simp only [R'] at e
    split at e
    · split at e <;> simp at e
    · exact e
  obtain ⟨h1, h2⟩ := h.handStep (R' := R') (w' := w) j (fun K hK => by simp only [R', if_neg hK]) (fun _ => id) rfl h.hh (fun _ _ _ => id)
    (fun K K' b n m e1 e2 => h.inj _ _ _ _ _ (some_blk e1) (some_blk e2)) (fun b hb K n e => h.zd b hb K n (some_blk e)) (fun K b n e => h.lo K b n (some_blk e)) (fun K b n e => h.lt K b n (some_blk e)) h.zlt h.bel
  refine ⟨R', h1, h2, ?_⟩
  simp only [VR, OR]
  exact .inl ⟨by simp only [R', if_pos (Key.under_refl _), if_true], trivial, trivial⟩

theorem typed_ok {C : Orc} {w0 : Base} {w : World} {st : St} {ts : List (Array Value)} {R : Cx} (h : Rel w0 st ts R w) {nest : Bool} {s : Option Sh} {v : AV} {k : AV → St → Prop} (hw : (typed nest s v).wp C st k) {j : Nat} {val : Value} (hv : SV R v (st.hand j) val) :
    ∃ u R', k u st ∧ Rel w0 st ts R' w ∧ Kept R R' st j ∧ SV R' u (st.hand j) val := by
  cases v with
  | nils =>
    simp only [typed] at hw
    split at hw
    · rename_i e
      obtain ⟨R', h1, h2, h3⟩ := h.nilHand j e (e.low nest)
      refine ⟨_, R', hw, h1, h2, ?_⟩
      have hv : [val] = [Value.slice none 0 0] := hv
      simp only [List.cons.injEq, and_true] at hv
      subst hv
      exact h3
    · exact hw.elim
  | _ => exact ⟨_, R, hw, h, Kept.refl _ _ _, hv⟩

theorem OpOk.assign {P : Program} {E : Env} {C : Orc} {o : Oper} {x : Operand} (ho : o.op = .assign x) : OpOk P E C o := by
  intro w0 st a ts R w k next Q h hw hn
  simp only [evOp, ho, M.wp_bind] at hw
  obtain ⟨v, st1, R1, hk, h1, hl, hh, _, hv⟩ := takeOp_ok h hw 0
  rw [← hh 0] at hv
  obtain ⟨u, R2, hk, h2, _, hv⟩ := typed_ok h1 hk hv
  have hrun : (execOp a.eval o).run P w = .ok (.value (a.eval x)) w := by simp only [execOp, ho]; rfl
  cases hd : o.dst with
  | none => rw [hd] at hk; exact hk.elim
  | some t =>
    rw [hd] at hk
    obtain ⟨st3, R3, hk, h3⟩ := putV_ok h2 hk hv
    simp only [Oper.wp, hrun, Oper.upon, hd]
    exact hn _ st3 R3 w (put_defers _ _ _) h3 hk

/-! ### Scalars -/

theorem SV_int {R : Cx} {k : IntKind} {n : Int} {K : Key} {v : Value} (h : SV R (.d (.int k) n) K v) : v = .int k n := by
  have h : [v] = [Value.int k n] := h
  simpa using h
theorem SV_bool {R : Cx} {b : Bool} {K : Key} {v : Value} (h : SV R (.d .bool b) K v) : v = .bool b := by
  have h : [v] = [Value.bool b] := h
  simpa using h
theorem SV_str {R : Cx} {s : ByteArray} {K : Key} {v : Value} (h : SV R (.d .str s) K v) : v = .string s := by
  have h : [v] = [Value.string s] := h
  simpa using h
theorem mk_int {R : Cx} {k : IntKind} {n : Int} {K : Key} : SV R (.d (.int k) n) K (.int k n) := rfl
theorem mk_bool {R : Cx} {b : Bool} {K : Key} : SV R (.d .bool b) K (.bool b) := rfl
theorem mk_str {R : Cx} {s : ByteArray} {K : Key} : SV R (.d .str s) K (.string s) := rfl

theorem OpOk.pick {P : Program} {E : Env} {C : Orc} {o : Oper} {c x y : Operand} (ho : o.op = .pick c x y) : OpOk P E C o := by
  intro w0 st a ts R w k next Q h hw hn
  simp only [evOp, ho, M.wp_bind] at hw
  obtain ⟨v, hk, ⟨K, hK, hv⟩, hq1, hq2⟩ := rawOp_ok h hw
  split at hk
  · rename_i t
    have hc := SV_bool hv
    simp only [M.wp] at hk
    have hbb : t = true ∨ t = false := by cases (t : Bool) <;> simp
    rcases hbb with e | e <;> rw [e] at hk hc
    · simp only [cond_true, M.wp_bind] at hk
      obtain ⟨u, hk, _, hu⟩ := viewOp_ok h hk
      exact OpOk.value (j := 0) (by simp only [execOp, ho, hc]; rfl) h hk (hu _ rfl) hn
    · simp only [cond_false, M.wp_bind] at hk
      obtain ⟨u, hk, _, hu⟩ := viewOp_ok h hk
      exact OpOk.value (j := 0) (by simp only [execOp, ho, hc]; rfl) h hk (hu _ rfl) hn
  · exact hk.elim

/-! ### Places in memory -/

def St.key (st : St) (q : Pl) : Key := ⟨st.length - 1 - q.r.k, q.r.s, q.r.bx, q.p⟩

/-- What stands in a slot or in its box. -/
theorem at_ok {w0 : Base} {w : World} {st : St} {ts : List (Array Value)} {R : Cx} (h : Rel w0 st ts R w) {r : Reg} {s : Slot} (hs : st.get r.k r.s = some s) (hu : s.at r.bx ≠ .undef) (ht : ∀ y, s.at r.bx ≠ .tup y) :
    ∃ cs, VR R (s.at r.bx) (st.key ⟨r, []⟩) cs ∧ (r.bx = true → AtR R (st.key ⟨r, []⟩) cs) := by
  cases r with | mk n m bx =>
  cases bx with
  | true =>
    simp only [Slot.at, if_true] at hu ht ⊢
    rcases h.box n m s hs with e | ⟨b, arr, el, h1, h2, h3⟩
    · exact absurd e hu
    · exact ⟨arr.toList, h3, fun _ => ⟨b, arr, el, 0, [], h1, h2, by simp [St.key, offOf]⟩⟩
  | false =>
    simp only [Slot.at, Bool.false_eq_true, if_false] at hu ht ⊢
    have hlt := St.get_lt hs
    rw [h.len] at hlt
    obtain ⟨t, htt⟩ : ∃ t, ts[n]? = some t := ⟨_, List.getElem?_eq_getElem hlt⟩
    have hv := h.slot n m s t hs htt
    rw [SV_VV ht, VV_iff hu] at hv
    split at hv
    · obtain ⟨arr, _, hv⟩ := hv; exact ⟨_, hv, fun e => by simp at e⟩
    · exact ⟨_, hv, fun e => by simp at e⟩

/-- What stands at a place. -/
theorem part_ok {C : Orc} {w0 : Base} {w : World} {st : St} {ts : List (Array Value)} {R : Cx} (h : Rel w0 st ts R w) {q : Pl} {s : Slot} (hs : st.get q.r.k q.r.s = some s) {k : AV → St → Prop}
    (hw : ((s.at q.r.bx).part q.p.reverse).wp C st k) :
    ∃ x, k x st ∧ (x ≠ .undef → (∀ y, x ≠ .tup y) → ∃ c, VR R x (st.key q) c ∧ (q.mem = true → AtR R (st.key q) c)) := by
  have hext : (st.key ⟨q.r, []⟩).ext q.p.reverse = st.key q := by simp [St.key, Key.ext]
  cases hp : q.p.reverse with
  | nil =>
    rw [hp] at hw
    have hq : q.p = [] := by simpa using hp
    refine ⟨_, hw, fun hu ht => ?_⟩
    obtain ⟨cs, h1, h2⟩ := at_ok h hs hu ht
    have e : st.key ⟨q.r, []⟩ = st.key q := by simp [St.key, hq]
    rw [e] at h1 h2
    exact ⟨cs, h1, fun hm => h2 (by rw [Pl.mem_old] at hm; simpa [hp, ixIn] using hm)⟩
  | cons i p =>
    have hu : s.at q.r.bx ≠ .undef := by
      intro e; rw [e, hp] at hw; simp only [AV.part, AV.step, M.bind] at hw; exact hw
    have ht : ∀ y, s.at q.r.bx ≠ .tup y := by
      intro y e; rw [e, hp] at hw; simp only [AV.part, AV.step, M.bind] at hw; exact hw
    obtain ⟨cs, h1, h2⟩ := at_ok h hs hu ht
    obtain ⟨x, hx, hv⟩ := part_wp _ hw
    refine ⟨x, hx, fun _ _ => ?_⟩
    obtain ⟨c, c1, c2, c3⟩ := hv R _ cs h1
    rw [hext] at c1 c2 c3
    refine ⟨c, c1, fun hm => ?_⟩
    rw [Pl.mem_old] at hm
    simp only [Bool.or_eq_true] at hm
    rcases hm with hm | hm
    · exact c2 (h2 hm)
    · exact c3 hm

/-- A pointer to what stands in memory. -/
theorem ptr_at {w0 : Base} {w : World} {st : St} {ts : List (Array Value)} {R : Cx} (h : Rel w0 st ts R w) {q : Pl} {K : Key} {v : Value} {c : List Value} (hK : K.lv = st.length - 1) (hv : SV R (.ptr q) K v) (ha : AtR R (st.key q) c) :
    ∃ b arr el r, v = .pointer (some ⟨b, offOf q.p, none⟩) ∧ w.heap[b]? = some (.cells arr el (0, 0)) ∧ arr.toList.drop (offOf q.p) = c ++ r ∧ ∃ n, R.ρ (st.key q).node = some (.blk b n) := by
  obtain ⟨u, e, _, hp⟩ : VR R (.ptr q) K [v] := hv
  simp only [List.cons.injEq, and_true] at e
  subst e
  obtain ⟨b, arr, el, n, r, h1, h2, h3⟩ := ha
  have hk : K.at q = st.key q := by simp [Key.at, St.key, hK]
  rw [hk, h1] at hp
  exact ⟨b, arr, el, r, hp, by rw [← h.hh]; exact h2, h3, n, h1⟩

end Go.Proofs.Ytlndfmmigndgeaa.Ev

/- The type table against the program's. -/
namespace Go.Proofs.Ytlndfmmigndgeaa.Ev
open Go
set_option linter.unusedSimpArgs false
set_option linter.unusedVariables false

/-- The values that cells are cells of. -/
def unflat : Sh → List Value → List Value
  | .pair a b, cs => (if a.isAgg then .agg (cs.take a.size).toArray else cs.headD undef) :: unflat b (cs.drop a.size)
  | _, cs => cs

theorem flat_unflat : ∀ (s : Sh) (cs : List Value), cs.length = s.size → FlatOf s (unflat s cs) cs := by
  intro s
  induction s with
  | pair a b iha ihb =>
    intro cs h
    simp only [Sh.size] at h
    refine ⟨_, _, cs.take a.size, cs.drop a.size, rfl, (List.take_append_drop ..).symm, fun h => by rw [if_pos h], fun hg => ?_, by rw [List.length_take]; omega, ihb _ (by rw [List.length_drop]; omega)⟩
    have h1 : a.size = 1 := by cases a <;> simp [Sh.isAgg, Sh.size] at hg ⊢
    rw [h1] at h ⊢
    rw [if_neg (by simp [hg])]
    cases cs with
    | nil => simp only [List.length_nil] at h; omega
    | cons c cs => simp
  | _ => intro cs _; rfl

def zeroCells : Sh → List Value
  | .int k => [.int k 0]
  | .bool => [.bool false]
  | .str => [.string ByteArray.empty]
  | .sl _ => [.slice none 0 0]
  | .unit => []
  | .pair a b => zeroCells a ++ zeroCells b
  | .fn f c => [.func (.func f) #[] (unflat c (zeroCells c)).toArray]
  | .ptr _ => [.pointer none]

theorem zeroCells_length : ∀ s : Sh, (zeroCells s).length = s.size := by
  intro s
  induction s with
  | pair a b iha ihb => rw [zeroCells]; simp only [List.length_append, iha, ihb, Sh.size]
  | _ => simp [zeroCells, Sh.size]

theorem DR_zero {Z : Nat → Prop} {h : Array Obj} : ∀ s : Sh, DR Z h s s.dflt (zeroCells s) := by
  intro s
  induction s with
  | pair a b iha ihb => rw [zeroCells]; exact ⟨_, _, rfl, iha, ihb⟩
  | sl e ih => rw [zeroCells]; exact .inl ⟨rfl, none, 0, rfl⟩
  | ptr s ih => rw [zeroCells]; exact .inl ⟨rfl, rfl⟩
  | fn f c ih => rw [zeroCells]; exact ⟨_, _, rfl, by simpa using flat_unflat c _ (zeroCells_length c), ih⟩
  | _ => rw [zeroCells]; exact rfl

def isZeroV : Value → Value → Bool
  | .int k n, .int k' n' => k == k' && n == n'
  | .bool a, .bool b => a == b
  | .string a, .string b => a.size == 0 && b.size == 0
  | .slice none 0 0, .slice none 0 0 => true
  | _, _ => false

def eqZero : List Value → List Value → Bool
  | [], [] => true
  | a :: x, b :: y => isZeroV a b && eqZero x y
  | _, _ => false

def fldB (P : Program) (E : Env) : List Field → Sh → Nat → Bool
  | [], .unit, _ => true
  | f :: fs, .pair a b, off => f.offset == off && E.sh f.type == some a && a.size != 0 && fldB P E fs b (off + a.size)
  | _, _, _ => false

def tyB (P : Program) (E : Env) (t : TypeId) (s : Sh) : Bool :=
  match P.info? t with
  | none => false
  | some i => i.size == s.size && (match i.zero with
      | some (.agg cs) => s.isAgg && eqZero cs.toList (zeroCells s)
      | some v => !s.isAgg && eqZero [v] (zeroCells s)
      | none => false) &&
    match s, P.underlying t with
    | .int k, some (.int k') => k == k'
    | .bool, some .bool => true
    | .str, some .string => true
    | .sl e, some (.slice et) => E.sh et == some e && e.size != 0 && (match P.info? et with | some j => j.bytes == E.bytes t | none => false)
    | .unit, some (.struct fs) => fldB P E fs.toList .unit 0
    | .pair a b, some (.struct fs) => fldB P E fs.toList (.pair a b) 0
    | _, _ => false

def rowB : TypeDesc → Bool
  | .struct _ | .array _ _ => true
  | _ => false

def oneB (P : Program) (t : TypeId) : Bool :=
  match P.info? t, P.underlying t with
  | some i, some d => i.size == 1 && !rowB d
  | _, _ => false

def arrB (P : Program) (E : Env) (t : TypeId) (n : Nat) (e : Sh) : Bool :=
  match P.underlying t with
  | some (.array m et) => m == n && E.sh et == some e && e.size == 1 && !e.isAgg && (match P.info? t with | some i => (match i.zero with | some (.agg cs) => cs.size == n | _ => false) | none => false)
  | _ => false

structure EnvOk (P : Program) (E : Env) : Prop where
  sh : ∀ t s, E.sh t = some s → tyB P E t s = true
  one : ∀ t, E.one t = true → oneB P t = true
  arr : ∀ t n e, E.arr t = some (n, e) → arrB P E t n e = true

theorem size_zero {x : ByteArray} (h : x.size = 0) : x = ByteArray.empty := by
  cases x with | mk d => cases d with | mk l => cases l with
    | nil => rfl
    | cons a l => simp [ByteArray.size] at h

theorem isZeroV_eq {a b : Value} (h : isZeroV a b = true) : a = b := by
  unfold isZeroV at h
  split at h
  · simp only [Bool.and_eq_true, beq_iff_eq] at h; rw [h.1, h.2]
  · simp only [beq_iff_eq] at h; rw [h]
  · simp only [Bool.and_eq_true, beq_iff_eq] at h; rw [size_zero h.1, size_zero h.2]
  · rfl
  · simp at h

theorem eqZero_eq : ∀ {a b : List Value}, eqZero a b = true → a = b := by
  intro a
  induction a with
  | nil => intro b h; cases b <;> simp [eqZero] at h ⊢
  | cons x a ih =>
    intro b h
    cases b with
    | nil => simp [eqZero] at h
    | cons y b =>
      simp only [eqZero, Bool.and_eq_true] at h
      rw [isZeroV_eq h.1, ih h.2]

/-- What the table tells of a type. -/
structure Ty (P : Program) (E : Env) (t : TypeId) (s : Sh) where
  i : TypeInfo
  info : P.info? t = some i
  size : i.size = s.size
  z : Value
  zero : i.zero = some z
  zcells : z.cells.toList = zeroCells s
  zagg : (s.isAgg = true → ∃ cs, z = .agg cs) ∧ (s.isAgg = false → [z] = zeroCells s)

theorem tyB_info {P : Program} {E : Env} {t : TypeId} {s : Sh} (h : tyB P E t s = true) : ∃ i z, P.info? t = some i ∧ i.size = s.size ∧ i.zero = some z ∧ ((s.isAgg = true ∧ ∃ cs, z = .agg cs ∧ cs.toList = zeroCells s) ∨ (s.isAgg = false ∧ [z] = zeroCells s)) := by
  simp only [tyB] at h
  split at h
  · simp at h
  · rename_i i hi
    simp only [Bool.and_eq_true, beq_iff_eq] at h
    obtain ⟨⟨h1, h2⟩, _⟩ := h
    refine ⟨i, ?_⟩
    split at h2
    · rename_i cs hz
      simp only [Bool.and_eq_true] at h2
      exact ⟨_, hi, h1, hz, .inl ⟨h2.1, cs, rfl, eqZero_eq h2.2⟩⟩
    · rename_i v hn hz
      simp only [Bool.and_eq_true, Bool.not_eq_true'] at h2
      exact ⟨_, hi, h1, hz, .inr ⟨h2.1, eqZero_eq h2.2⟩⟩
    · simp at h2

theorem tyB_sl {P : Program} {E : Env} {t : TypeId} {e : Sh} (h : tyB P E t (.sl e) = true) : ∃ et j, P.underlying t = some (.slice et) ∧ E.sh et = some e ∧ e.size ≠ 0 ∧ P.info? et = some j ∧ j.bytes = E.bytes t := by
  simp only [tyB] at h
  split at h
  · simp at h
  · simp only [Bool.and_eq_true] at h
    obtain ⟨_, h⟩ := h
    cases hu : P.underlying t with
    | none => simp [hu] at h
    | some d =>
      rw [hu] at h
      cases d <;> simp only [Bool.false_eq_true] at h
      rename_i et
      simp only [Bool.and_eq_true, beq_iff_eq, bne_iff_ne, ne_eq] at h
      obtain ⟨⟨h1, h2⟩, h3⟩ := h
      split at h3
      · rename_i j hj; exact ⟨et, j, rfl, h1, h2, hj, by simpa using h3⟩
      · simp at h3

theorem tyB_agg {P : Program} {E : Env} {t : TypeId} {s : Sh} (h : tyB P E t s = true) : ∃ d, P.underlying t = some d ∧ rowB d = s.isAgg := by
  simp only [tyB] at h
  split at h
  · simp at h
  · simp only [Bool.and_eq_true] at h
    obtain ⟨_, h⟩ := h
    split at h <;> first | exact ⟨_, ‹_›, rfl⟩ | (simp at h; done)

theorem tyB_fld {P : Program} {E : Env} {t : TypeId} {s : Sh} (h : tyB P E t s = true) (ha : s.isAgg = true) : ∃ fs, P.underlying t = some (.struct fs) ∧ fldB P E fs.toList s 0 = true := by
  simp only [tyB] at h
  split at h
  · simp at h
  · simp only [Bool.and_eq_true] at h
    obtain ⟨_, h⟩ := h
    split at h <;> first | exact ⟨_, ‹_›, h⟩ | (simp [Sh.isAgg] at ha; done) | (simp at h; done)

/-- What the machine knows of a type's size. -/
theorem EnvOk.sz {P : Program} {E : Env} (h : EnvOk P E) {t : TypeId} {n : Nat} {g : Bool} (hs : E.sz t = some (n, g)) :
    ∃ i d, P.info? t = some i ∧ i.size = n ∧ P.underlying t = some d ∧ rowB d = g := by
  unfold Env.sz at hs
  split at hs
  · rename_i s e
    simp only [Option.some.injEq, Prod.mk.injEq] at hs
    obtain ⟨rfl, rfl⟩ := hs
    obtain ⟨i, z, h1, h2, _⟩ := tyB_info (h.sh t s e)
    obtain ⟨d, h3, h4⟩ := tyB_agg (h.sh t s e)
    exact ⟨i, d, h1, h2, h3, h4⟩
  · split at hs
    · rename_i ho
      simp only [Option.some.injEq, Prod.mk.injEq] at hs
      obtain ⟨rfl, rfl⟩ := hs
      have := h.one t ho
      unfold oneB at this
      split at this
      · rename_i i d h1 h2
        simp only [Bool.and_eq_true, beq_iff_eq, Bool.not_eq_true'] at this
        exact ⟨i, d, h1, this.1, h2, this.2⟩
      · simp at this
    · simp at hs

section
variable {P : Program}

theorem run_info {t : TypeId} {i : TypeInfo} (h : P.info? t = some i) (w : World) : (typeInfo t).run P w = .ok i w := by simp [typeInfo, h]
theorem run_size {t : TypeId} {i : TypeInfo} (h : P.info? t = some i) (w : World) : (sizeOf t).run P w = .ok i.size w := by simp [sizeOf, run_info h]
theorem run_zero {t : TypeId} {i : TypeInfo} {z : Value} (h : P.info? t = some i) (hz : i.zero = some z) (w : World) : (zeroValue t).run P w = .ok z w := by simp [zeroValue, run_info h, hz]
theorem run_agg {t : TypeId} {d : TypeDesc} {g : Bool} (h : P.underlying t = some d) (hg : rowB d = g) (w : World) : (isAgg t).run P w = .ok g w := by
  simp only [isAgg, Sem.run_bind, run_underlying h, Result.andThen_ok]
  subst hg
  cases d <;> rfl

/-- A load out of cells. -/
theorem run_load_cells {t : TypeId} {i : TypeInfo} {d : TypeDesc} {g : Bool} (hi : P.info? t = some i) (hu : P.underlying t = some d) (hg : rowB d = g)
    {w : World} {b off : Nat} {arr : Array Value} {el : TypeId} {fr : Nat × Nat} {c r : List Value} (hh : w.heap[b]? = some (.cells arr el fr)) (hc : arr.toList.drop off = c ++ r) (hs : i.size = c.length) :
    (g = true → (Instr.loadAt t (.pointer (some ⟨b, off, none⟩))).run P w = .ok (.agg c.toArray) w) ∧ (g = false → ∀ v, c = [v] → (Instr.loadAt t (.pointer (some ⟨b, off, none⟩))).run P w = .ok v w) := by
  have hcell : ∀ j v, c[j]? = some v → w.cell? ⟨b, off + j, none⟩ = some v := by
    intro j v hj
    have hlt := (List.getElem?_eq_some_iff.1 hj).1
    have : arr.toList[off + j]? = some v := by
      have e : (arr.toList.drop off)[j]? = some v := by rw [hc, List.getElem?_append_left hlt]; exact hj
      rwa [List.getElem?_drop] at e
    simp only [World.cell?, hh]
    simpa using this
  constructor
  · intro e
    subst e
    simp only [Instr.loadAt, Instr.sureAddr, Sem.run_bind, Sem.run_pure, Result.andThen_ok, loadVar, run_agg hu hg, if_true, run_size hi]
    rw [hs, run_loadCells_list w ⟨b, off, none⟩ c (fun j v hj => by rw [Addr.add_mid]; exact hcell j v hj)]
    rfl
  · intro e v hv
    subst e
    subst hv
    have := hcell 0 v rfl
    simp only [Nat.add_zero] at this
    simp [Instr.loadAt, Instr.sureAddr, loadVar, run_agg hu hg, this]

end

end Go.Proofs.Ytlndfmmigndgeaa.Ev

/- Operations that only read. -/
namespace Go.Proofs.Ytlndfmmigndgeaa.Ev
open Go
set_option linter.unusedSimpArgs false
set_option linter.unusedVariables false

theorem VR_tup {R : Cx} {y : AV} {K : Key} {c : List Value} (h : VR R (.tup y) K c) : False := h

theorem SV_of_VR {R : Cx} {x : AV} {K : Key} {c : List Value} (h : VR R x K c) (hu : x ≠ .undef) : (x.isAgg = true → SV R x K (.agg c.toArray)) ∧ (x.isAgg = false → ∀ v, c = [v] → SV R x K v) := by
  have ht : ∀ y, x ≠ .tup y := by rintro y rfl; exact h
  constructor
  · intro e; rw [SV_VV ht, VV_iff hu, e, if_pos rfl]; exact ⟨_, rfl, by simpa using h⟩
  · intro e v hv; subst hv; rw [SV_VV ht, VV_iff hu, e]; simpa using h

theorem Rel.fl_at {w0 : Base} {w : World} {st : St} {ts : List (Array Value)} {R : Cx} (h : Rel w0 st ts R w) {i n : Nat} {s : Slot} (hg : st.get i n = some s) (bx : Bool) : R.fl (st.length - 1 - i) n bx = s.flag bx := by
  have := St.get_lt hg
  have e : st.length - 1 - (st.length - 1 - i) = i := by omega
  rw [h.fl]; simp only [St.fl, e, hg]
  simp; omega

/-- A place read as a copy. -/
theorem lookPl_ok {C : Orc} {w0 : Base} {w : World} {st : St} {ts : List (Array Value)} {R : Cx} (h : Rel w0 st ts R w) {q : Pl} {k : AV → St → Prop} (hw : (lookPl q).wp C st k) :
    ∃ x, k x st ∧ x.hasOwn = false ∧ x.isBad = false ∧ ∃ c, (∀ K, K.lv = st.length - 1 → VR R x K c) ∧ (q.mem = true → AtR R (st.key q) c) := by
  rw [lookP_wp] at hw
  simp only [M.wp_rd] at hw
  obtain ⟨s, hs, hk⟩ := hw
  rw [M.wp_bind] at hk
  obtain ⟨x, hx, hv⟩ := part_ok h hs hk
  by_cases hu : x.isBad = true
  · rw [if_pos hu] at hx; exact hx.elim
  rw [if_neg hu] at hx
  have hu : x.isBad = false := by simpa using hu
  obtain ⟨h1, h2⟩ := AV.notBad hu
  have hlt := St.get_lt hs
  by_cases hf : (x.hasOwn && !s.flag q.r.bx) = true
  · rw [if_pos hf] at hx; exact hx.elim
  rw [if_neg hf] at hx
  obtain ⟨c, hc, ha⟩ := hv h1 h2
  refine ⟨_, hx, viewOf_own _ _, viewOf_good _ hu, c, fun K hK => ?_, ha⟩
  have hkq : K.at q = st.key q := by simp [Key.at, St.key, hK]
  refine viewOf_VR hkq (by omega) (fun ho => ⟨by omega, ?_⟩) hc
  rw [hK, h.fl_at hs]
  simp only [ho, Bool.true_and, Bool.not_eq_true', Bool.not_eq_false] at hf
  exact hf

theorem OpOk.load {P : Program} {E : Env} (hE : EnvOk P E) {C : Orc} {o : Oper} {t : TypeId} {x : Operand} (ho : o.op = .load t x) : OpOk P E C o := by
  intro w0 st a ts R w k next Q h hw hn
  simp only [evOp, ho, M.wp_bind] at hw
  obtain ⟨v, hk, ⟨K, hK, hv⟩, hq1, hq2⟩ := rawOp_ok h hw
  -- what the cells give
  have fin : ∀ (y : AV) (c : List Value) (b off : Nat) (arr : Array Value) (el : TypeId) (fr : Nat × Nat) (r : List Value), a.eval x = .pointer (some ⟨b, off, none⟩) → w.heap[b]? = some (.cells arr el fr) → arr.toList.drop off = c ++ r →
      VR R y (st.hand 0) c → y.isBad = false → E.sz t = some (y.size, y.isAgg) → ∃ u, (execOp a.eval o).run P w = .ok (.value u) w ∧ SV R y (st.hand 0) u := by
    intro y c b off arr el fr r he hh hc hy hb hs
    obtain ⟨i, d, h1, h2, h3, h4⟩ := hE.sz hs
    obtain ⟨l1, l2⟩ := run_load_cells (P := P) h1 h3 h4 hh hc (by rw [h2, VR.length hy])
    obtain ⟨s1, s2⟩ := SV_of_VR hy (AV.notBad hb).1
    cases hg : y.isAgg with
    | true => exact ⟨_, by simp only [execOp, ho, he]; simp [l1 hg], s1 hg⟩
    | false =>
      obtain ⟨u, hu⟩ : ∃ u, c = [u] := by
        have e1 := VR.length hy
        have e2 : y.size = 1 := by
          cases y <;> simp [AV.isAgg, AV.size, AV.isBad] at hg hb ⊢
          rename_i s z
          cases s <;> simp [Sh.isAgg, Sh.size] at hg ⊢
        rw [e2] at e1
        exact List.length_eq_one_iff.1 e1
      exact ⟨u, by simp only [execOp, ho, he]; simp [l2 hg u hu], s2 hg u hu⟩
  simp only [loadAV] at hk
  split at hk
  · rename_i q
    by_cases hm : q.mem = true
    · rw [if_pos hm] at hk
      obtain ⟨y, hy, _, hb, c, hc, ha⟩ := lookPl_ok h hk
      by_cases hs : E.sz t = some (y.size, y.isAgg)
      · rw [if_pos hs] at hy
        obtain ⟨b, arr, el, r, e1, e2, e3, _⟩ := ptr_at h hK hv (ha hm)
        obtain ⟨u, hr, hsv⟩ := fin y c _ _ arr el _ r e1 e2 e3 (hc _ rfl) hb hs
        exact OpOk.value (j := 0) hr h hy hsv hn
      · rw [if_neg hs] at hy; exact hy.elim
    · rw [if_neg hm] at hk; exact hk.elim
  · rename_i s y
    have hk : (if E.sz t = some ((AV.d s y).size, (AV.d s y).isAgg) then dstT o (AV.d s y) else M.fail).wp C st k := hk
    by_cases hs : E.sz t = some ((AV.d s y).size, (AV.d s y).isAgg)
    · rw [if_pos hs] at hk
      obtain ⟨b, off, arr, el, fr, c, r, e, _, hh, hd, hx⟩ : VR R (.dp s y) K [a.eval x] := hv
      simp only [List.cons.injEq, and_true] at e
      rw [h.hh] at hh
      obtain ⟨u, hr, hsv⟩ := fin (.d s y) c _ _ arr el _ r e hh hd hx rfl hs
      exact OpOk.value (j := 0) hr h hk hsv hn
    · rw [if_neg hs] at hk; exact hk.elim
  · exact hk.elim

end Go.Proofs.Ytlndfmmigndgeaa.Ev

/- Addresses of fields and elements; scalars. -/
namespace Go.Proofs.Ytlndfmmigndgeaa.Ev
open Go
set_option linter.unusedSimpArgs false
set_option linter.unusedVariables false

def pathOff : List Stp → Nat
  | .r n :: p => n + pathOff p
  | .l :: p => pathOff p
  | _ => 0

def flat (p : List Stp) : Bool := p.all fun i => !i.isIx

theorem fldPath_flat : ∀ {s : Sh} {n : Nat} {p : List Stp}, fldPath s n = some p → flat p = true := by
  intro s
  induction s with
  | pair a b iha ihb =>
    intro n p h
    cases n with
    | zero => simp only [fldPath, Option.some.injEq] at h; subst h; rfl
    | succ n =>
      simp only [fldPath, Option.map_eq_some_iff] at h
      obtain ⟨q, hq, rfl⟩ := h
      have := ihb hq
      simp only [flat, List.all_cons, Stp.isIx, Bool.not_false, Bool.true_and] at this ⊢
      exact this
  | _ => intro n p h; simp [fldPath] at h

theorem fldPath_field {P : Program} {E : Env} : ∀ {s : Sh} {fs : List Field} {off n : Nat} {p : List Stp}, fldB P E fs s off = true → fldPath s n = some p →
    ∃ (f : Field) (a : Sh), fs[n]? = some f ∧ f.offset = off + pathOff p ∧ E.sh f.type = some a ∧ a.size ≠ 0 := by
  intro s
  induction s with
  | pair a b iha ihb =>
    intro fs off n p h hp
    cases fs with
    | nil => simp [fldB] at h
    | cons f fs =>
      simp only [fldB, Bool.and_eq_true, beq_iff_eq, bne_iff_ne, ne_eq] at h
      obtain ⟨⟨⟨h1, h2⟩, h3⟩, h4⟩ := h
      cases n with
      | zero => simp only [fldPath, Option.some.injEq] at hp; subst hp; exact ⟨f, a, rfl, by simp [pathOff, h1], h2, h3⟩
      | succ n =>
        simp only [fldPath, Option.map_eq_some_iff] at hp
        obtain ⟨q, hq, rfl⟩ := hp
        obtain ⟨g, c, e1, e2, e3, e4⟩ := ihb h4 hq
        exact ⟨g, c, by simpa using e1, by rw [e2]; simp only [pathOff]; omega, e3, e4⟩
  | _ => intro fs off n p h hp; simp [fldPath] at hp

theorem nodeOf_flat : ∀ {p q : List Stp}, flat p = true → nodeOf (p ++ q) = nodeOf q := by
  intro p
  induction p with
  | nil => intro q _; rfl
  | cons i p ih =>
    intro q h
    simp only [flat, List.all_cons, Bool.and_eq_true] at h
    cases i with
    | ix i z => simp [Stp.isIx] at h
    | l => exact ih h.2
    | r n => exact ih h.2

theorem pathOff_append : ∀ {p q : List Stp}, flat p = true → flat q = true → pathOff (p ++ q) = pathOff p + pathOff q := by
  intro p
  induction p with
  | nil => intro q _ _; simp [pathOff]
  | cons i p ih =>
    intro q h hq
    simp only [flat, List.all_cons, Bool.and_eq_true] at h
    cases i with
    | ix i z => simp [Stp.isIx] at h
    | l => simp only [List.cons_append, pathOff]; exact ih h.2 hq
    | r n => simp only [List.cons_append, pathOff, ih h.2 hq]; omega

theorem offOf_flat : ∀ {p q : List Stp}, flat p = true → offOf (p ++ q) = pathOff p + offOf q := by
  intro p
  induction p with
  | nil => intro q _; simp [pathOff]
  | cons i p ih =>
    intro q h
    simp only [flat, List.all_cons, Bool.and_eq_true] at h
    cases i with
    | ix i z => simp [Stp.isIx] at h
    | l => simp only [List.cons_append, offOf, pathOff]; exact ih h.2
    | r n => simp only [List.cons_append, offOf, pathOff, ih h.2]; omega

theorem flat_reverse {p : List Stp} (h : flat p = true) : flat p.reverse = true := by simpa [flat] using h

theorem pathOff_reverse {p : List Stp} (h : flat p = true) : pathOff p.reverse = pathOff p := by
  induction p with
  | nil => rfl
  | cons i p ih =>
    simp only [flat, List.all_cons, Bool.and_eq_true] at h
    rw [List.reverse_cons, pathOff_append (flat_reverse h.2) (by simpa [flat] using h.1), ih h.2]
    cases i with
    | ix i z => simp [Stp.isIx] at h
    | l => simp [pathOff]
    | r n => simp [pathOff]; omega

/-- A part of frozen data in its cells. -/
theorem part_d {C : Orc} : ∀ (p : List Stp) {s : Sh} {x : s.den} {st : St} {k : AV → St → Prop}, flat p = true → ((AV.d s x).part p).wp C st k →
    ∃ t y, k (.d t y) st ∧ ∀ {Z h cs}, DR Z h s x cs → ∃ pre c post, cs = pre ++ c ++ post ∧ pre.length = pathOff p ∧ DR Z h t y c := by
  intro p
  induction p with
  | nil => intro s x st k _ h; exact ⟨s, x, h, fun {Z h cs} hd => ⟨[], cs, [], by simp, rfl, hd⟩⟩
  | cons i p ih =>
    intro s x st k hf h
    simp only [flat, List.all_cons, Bool.and_eq_true] at hf
    simp only [AV.part, M.wp_bind] at h
    cases s with
    | pair a b =>
      cases i with
      | ix i z => simp [Stp.isIx] at hf
      | l =>
        obtain ⟨t, y, hk, hd⟩ := ih hf.2 (s := a) (x := x.1) h
        refine ⟨t, y, hk, fun {Z h cs} hx => ?_⟩
        obtain ⟨c1, c2, rfl, h1, h2⟩ := hx
        obtain ⟨pre, c, post, rfl, e, hc⟩ := hd h1
        exact ⟨pre, c, post ++ c2, by simp, e, hc⟩
      | r n =>
        simp only [AV.step] at h
        split at h
        · rename_i hn
          obtain ⟨t, y, hk, hd⟩ := ih hf.2 (s := b) (x := x.2) h
          refine ⟨t, y, hk, fun {Z h cs} hx => ?_⟩
          obtain ⟨c1, c2, rfl, h1, h2⟩ := hx
          obtain ⟨pre, c, post, rfl, e, hc⟩ := hd h2
          exact ⟨c1 ++ pre, c, post, by simp, by simp only [List.length_append, DR.length h1, e, hn, pathOff], hc⟩
        · exact h.elim
    | _ => cases i <;> exact h.elim

theorem addr_add (b off n : Nat) : (⟨b, off, none⟩ : Addr).add n = ⟨b, off + n, none⟩ := by unfold Addr.add; split <;> simp_all

theorem run_fieldAt {P : Program} {E : Env} (hE : EnvOk P E) {t : TypeId} {s : Sh} {n : Nat} {path : List Stp} (hs : E.sh t = some s) (hp : fldPath s n = some path) (w : World) (b off : Nat) :
    (Instr.fieldAt t (.pointer (some ⟨b, off, none⟩)) n).run P w = .ok (.pointer (some ⟨b, off + pathOff path, none⟩)) w := by
  have ha : s.isAgg = true := by cases s <;> first | rfl | (simp [fldPath] at hp)
  obtain ⟨fs, hu, hb⟩ := tyB_fld (hE.sh t s hs) ha
  obtain ⟨f, a, h1, h2, h3, h4⟩ := fldPath_field hb hp
  obtain ⟨i, z, hi, hsz, _⟩ := tyB_info (hE.sh _ _ h3)
  have h1 : fs[n]? = some f := by simpa using h1
  have hne : ¬ i.size = 0 := by rw [hsz]; exact h4
  simp [Instr.fieldAt, run_underlying hu, h1, Instr.sureAddr, fieldPlace, run_size hi, hne, addr_add, h2]

theorem ofOption_ok {α : Type} {C : Orc} {x : Option α} {st : St} {k : α → St → Prop} (h : (M.ofOption x).wp C st k) : ∃ a, x = some a ∧ k a st := by
  cases x with
  | none => exact h.elim
  | some a => exact ⟨a, rfl, h⟩

theorem OpOk.fieldAddr {P : Program} {E : Env} (hE : EnvOk P E) {C : Orc} {o : Oper} {t : TypeId} {x : Operand} {n : Nat} (ho : o.op = .fieldAddr t x n) : OpOk P E C o := by
  intro w0 st a ts R w k next Q h hw hn
  simp only [evOp, ho, M.wp_bind, fieldAddrAV] at hw
  obtain ⟨v, hk, ⟨K, hK, hv⟩, hq1, hq2⟩ := rawOp_ok h hw
  replace hk := ofOption_ok hk
  obtain ⟨path, hp, hk⟩ := hk
  rw [Option.bind_eq_some_iff] at hp
  obtain ⟨s, hs, hp⟩ := hp
  have hfl := fldPath_flat hp
  split at hk
  · rename_i q
    by_cases hm : q.mem = true
    · rw [if_pos hm] at hk
      have fin : ∃ b m, a.eval x = .pointer (some ⟨b, offOf q.p, none⟩) ∧ R.ρ (st.key q).node = some (.blk b m) ∧ (dstT o (.ptr { q with p := path.reverse ++ q.p })).wp C st k := by
        by_cases hix : ixIn q.p = true
        · rw [if_pos hix, M.wp_bind] at hk
          obtain ⟨y, hy, _, hb, c, hc, ha⟩ := lookPl_ok h hk
          obtain ⟨b, arr, el, r, e1, e2, e3, m, hρ⟩ := ptr_at h hK hv (ha hm)
          exact ⟨b, m, e1, hρ, hy⟩
        · rw [if_neg hix, M.wp_bind, getP_wp] at hk
          simp only [M.wp_rd] at hk
          obtain ⟨s1, hs1, hk⟩ := hk
          obtain ⟨y, hy, hx⟩ := part_ok h (q := ⟨q.r, [.l]⟩) hs1 hk
          have hbx : q.r.bx = true := by
            have hix : ixIn q.p = false := by simpa using hix
            simpa [Pl.mem, hix] using hm
          split at hy
          · obtain ⟨c, _, ha⟩ := hx (by simp) (by simp)
            obtain ⟨b, arr, el, m, r, e1, e2, e3⟩ := ha (by simp [Pl.mem, hbx])
            have hfq : flat q.p = true := by simpa [flat, ixIn] using hix
            have hnode : (st.key ⟨q.r, [.l]⟩).node = (st.key q).node := by
              have := nodeOf_flat (q := []) hfq
              rw [List.append_nil] at this
              simp [Key.node, St.key, nodeOf, this]
            rw [hnode] at e1
            obtain ⟨u, e, _, hp'⟩ : VR R (.ptr q) K [a.eval x] := hv
            simp only [List.cons.injEq, and_true] at e
            have hkq : K.at q = st.key q := by simp [Key.at, St.key, show K.lv = st.length - 1 from hK]
            rw [hkq, e1] at hp'
            exact ⟨b, m, by rw [e]; exact hp', e1, hy⟩
          · exact hy.elim
      obtain ⟨b, m, e1, hρ, hy⟩ := fin
      refine OpOk.value (j := 0) (v := .pointer (some ⟨b, offOf q.p + pathOff path, none⟩)) (by simp only [execOp, ho, e1]; simp [run_fieldAt hE hs hp]) h hy ?_ hn
      obtain ⟨u, _, ⟨s1, s2⟩, _⟩ : VR R (.ptr q) K [a.eval x] := hv
      refine ⟨_, rfl, ⟨by rw [show (st.hand 0).lv = K.lv from hK.symm]; exact s1, by rw [show (st.hand 0).lv = K.lv from hK.symm]; exact s2⟩, ?_⟩
      have hnode : ((st.hand 0).at { q with p := path.reverse ++ q.p }).node = (st.key q).node := by
        simp only [Key.at, Key.node, St.key, St.hand, nodeOf_flat (flat_reverse hfl)]
      rw [hnode, hρ]
      show _ = _
      rw [offOf_flat (flat_reverse hfl), pathOff_reverse hfl, Nat.add_comm]
    · rw [if_neg hm] at hk; exact hk.elim
  · rename_i s' y
    rw [M.wp_bind] at hk
    obtain ⟨t', z, hz, hd⟩ := part_d path hfl hk
    obtain ⟨b, off, arr, el, fr, c, r, e, hzb, hh, hdr, hx⟩ : VR R (.dp s' y) K [a.eval x] := hv
    simp only [List.cons.injEq, and_true] at e
    obtain ⟨pre, c', post, rfl, hl, hc'⟩ := hd hx
    refine OpOk.value (j := 0) (v := .pointer (some ⟨b, off + pathOff path, none⟩)) (by simp only [execOp, ho, e]; simp [run_fieldAt hE hs hp]) h hz ?_ hn
    refine ⟨b, off + pathOff path, arr, el, fr, c', post ++ r, rfl, hzb, hh, ?_, hc'⟩
    rw [← List.drop_drop, hdr, ← hl]; simp
  · exact hk.elim

end Go.Proofs.Ytlndfmmigndgeaa.Ev

/- Elements' addresses; scalars; lengths. -/
namespace Go.Proofs.Ytlndfmmigndgeaa.Ev
open Go
set_option linter.unusedSimpArgs false
set_option linter.unusedVariables false

theorem getPl_ok {C : Orc} {w0 : Base} {w : World} {st : St} {ts : List (Array Value)} {R : Cx} (h : Rel w0 st ts R w) {q : Pl} {k : AV → St → Prop} (hw : (getPl q).wp C st k) :
    ∃ x, k x st ∧ q.r.k ≤ st.length - 1 ∧ (x.isBad = false → ∃ c, VR R x (st.key q) c ∧ (q.mem = true → AtR R (st.key q) c)) := by
  rw [getP_wp] at hw
  simp only [M.wp_rd] at hw
  obtain ⟨s, hs, hk⟩ := hw
  obtain ⟨x, hx, hv⟩ := part_ok h hs hk
  have := St.get_lt hs
  exact ⟨x, hx, by omega, fun hb => hv (AV.notBad hb).1 (AV.notBad hb).2⟩

theorem St.hand_at (st : St) (j : Nat) (q : Pl) : (st.hand j).at q = st.key q := rfl

theorem at_key {st : St} {K : Key} (hK : K.lv = st.length - 1) (q : Pl) : K.at q = st.key q := by simp [Key.at, St.key, hK]

theorem run_indexAt {P : Program} {t et : TypeId} {j : TypeInfo} (hu : P.underlying t = some (.slice et)) (hj : P.info? et = some j) (w : World) (b off len cap : Nat) (k : IntKind) (i : Int) (h0 : 0 ≤ i) (h1 : i < (len : Int)) :
    (Instr.indexAt t (.slice (some ⟨b, off, none⟩) len cap) (.int k i)).run P w = .ok (.pointer (some ⟨b, off + i.toNat * j.size, none⟩)) w := by
  simp [Instr.indexAt, asIntOf, run_underlying hu, h0, h1, run_size hj, addr_add]

theorem sl_info {P : Program} {E : Env} (hE : EnvOk P E) {t : TypeId} {e : Sh} (hs : E.sh t = some (.sl e)) : ∃ et j, P.underlying t = some (.slice et) ∧ E.sh et = some e ∧ e.size ≠ 0 ∧ P.info? et = some j ∧ j.size = e.size ∧ j.bytes = E.bytes t := by
  obtain ⟨et, j, h1, h2, h3, h4, h5⟩ := tyB_sl (hE.sh _ _ hs)
  obtain ⟨i, z, h6, h7, _⟩ := tyB_info (hE.sh _ _ h2)
  rw [h4] at h6
  cases h6
  exact ⟨et, j, h1, h2, h3, h4, h7, h5⟩

/-- The header of a view of a slice that is there. -/
theorem vw_header {w0 : Base} {w : World} {st : St} {ts : List (Array Value)} {R : Cx} (h : Rel w0 st ts R w) {q : Pl} {e : Sh} {o : Ow} {l : List e.den} {c : List Value} {K : Key} {v : Value} (hK : K.lv = st.length - 1)
    (hv : SV R (.vw q e) K v) (ho : VR R (.own e o l) (st.key q) c) :
    R.sees K q ∧ ((l = [] ∧ v = .slice none 0 0 ∧ R.ρ (st.key q) = some .nil) ∨ ∃ b cap arr el, v = .slice (some ⟨b, 0, none⟩) l.length cap ∧ l.length ≤ cap ∧ cap * e.size ≤ arr.size ∧ w.heap[b]? = some (.cells arr el (0, 0)) ∧ R.ρ (st.key q) = some (.blk b l.length) ∧
      SegI (fun i x c => OR R e o ((st.key q).child (.ix i e.size)) x c) 0 l arr.toList) := by
  obtain ⟨u, e1, hs, hw⟩ : VR R (.vw q e) K [v] := hv
  simp only [List.cons.injEq, and_true] at e1
  subst e1
  rw [at_key hK] at hw
  simp only [VR, OR] at ho
  refine ⟨hs, ?_⟩
  rcases ho with ⟨h1, h2, _⟩ | ⟨b, cap, arr, el, h1, _, h3, h4, h5, h6⟩
  · rw [h1] at hw; exact .inl ⟨h2, hw, h1⟩
  · rw [h1] at hw
    obtain ⟨cap', arr', el', e1, e2, e3, e4⟩ := hw
    rw [h5] at e4
    cases e4
    exact .inr ⟨b, cap', arr, el, e1, e2, e3, by rw [← h.hh]; exact h5, h1, h6⟩

/-- The header of a view of a slice with a hole. -/
theorem vw_hole {w0 : Base} {w : World} {st : St} {ts : List (Array Value)} {R : Cx} (h : Rel w0 st ts R w) {q : Pl} {e : Sh} {o : Ow} {l : List e.den} {i : Nat} {a : AV} {c : List Value} {K : Key} {v : Value} (hK : K.lv = st.length - 1)
    (hv : SV R (.vw q e) K v) (ho : VR R (.hol e o l i a) (st.key q) c) :
    R.sees K q ∧ ∃ b cap arr el, v = .slice (some ⟨b, 0, none⟩) l.length cap ∧ l.length ≤ cap ∧ cap * e.size ≤ arr.size ∧ w.heap[b]? = some (.cells arr el (0, 0)) ∧ R.ρ (st.key q) = some (.blk b l.length) := by
  obtain ⟨u, e1, hs, hw⟩ : VR R (.vw q e) K [v] := hv
  simp only [List.cons.injEq, and_true] at e1
  subst e1
  rw [at_key hK] at hw
  obtain ⟨_, _, _, b, cap, arr, el, h1, _, h3, h4, h5, _⟩ := ho
  rw [h1] at hw
  obtain ⟨cap', arr', el', e1, e2, e3, e4⟩ := hw
  rw [h5] at e4
  cases e4
  exact ⟨hs, b, cap', arr, el, e1, e2, e3, by rw [← h.hh]; exact h5, h1⟩

theorem sub_header {w0 : Base} {w : World} {st : St} {ts : List (Array Value)} {R : Cx} (h : Rel w0 st ts R w) {q : Pl} {e e' : Sh} {o : Ow} {l : List e'.den} {c : List Value} {K : Key} {v : Value} {lo n : Nat} (hK : K.lv = st.length - 1)
    (hv : SV R (.sub q e lo n) K v) (ho : VR R (.own e' o l) (st.key q) c) :
    R.sees K q ∧ ((l = [] ∧ v = .slice none 0 0 ∧ lo = 0 ∧ n = 0 ∧ R.ρ (st.key q) = some .nil) ∨ ∃ b off cap, v = .slice (some ⟨b, off, none⟩) n cap ∧ n ≤ cap ∧ lo + n ≤ l.length ∧ (n = 0 ∨ off = lo * e.size) ∧ R.ρ (st.key q) = some (.blk b l.length)) := by
  obtain ⟨u, e1, hs, hw⟩ : VR R (.sub q e lo n) K [v] := hv
  simp only [List.cons.injEq, and_true] at e1
  subst e1
  rw [at_key hK] at hw
  simp only [VR, OR] at ho
  refine ⟨hs, ?_⟩
  rcases ho with ⟨h1, h2, _⟩ | ⟨b, cap, arr, el, h1, _, h3, h4, h5, h6⟩
  · rw [h1] at hw; exact .inl ⟨h2, hw.1, hw.2.1, hw.2.2, h1⟩
  · rw [h1] at hw
    obtain ⟨off, cap', e1, e2, e3, e4⟩ := hw
    exact .inr ⟨b, off, cap', e1, e2, e3, e4, h1⟩

theorem OpOk.indexAddr {P : Program} {E : Env} (hE : EnvOk P E) {C : Orc} {o : Oper} {t : TypeId} {x y : Operand} (ho : o.op = .indexAddr t x y) : OpOk P E C o := by
  intro w0 st a ts R w k next Q h hw hn
  simp only [evOp, ho, M.wp_bind] at hw
  obtain ⟨v, hk, ⟨K, hK, hv⟩, hq1, hq2⟩ := rawOp_ok h hw
  replace hk := rawOp_ok h hk
  obtain ⟨u, hk, ⟨K', hK', hu⟩, hq3, hq4⟩ := hk
  split at hk
  · rename_i kk i
    have hi := SV_int hu
    rw [M.wp_bind] at hk
    unfold indexAddrAV at hk
    split at hk
    · rename_i q e
      by_cases ht : E.sh t = some (.sl e)
      · rw [if_pos ht, M.wp_bind] at hk
        obtain ⟨et, j, e1, e2, e3, e4, e5, _⟩ := sl_info hE ht
        replace hk := getPl_ok h hk
        obtain ⟨z, hk, hqk, hz⟩ := hk
        split at hk
        · rename_i e' ow l
          by_cases hee : e' = e
          · subst hee
            rw [if_pos rfl] at hk
            obtain ⟨⟨i0, i1⟩, hk⟩ := hk
            obtain ⟨c, hc, _⟩ := hz rfl
            obtain ⟨⟨s1, s2⟩, hh⟩ := vw_header h hK hv hc
            rcases hh with ⟨rfl, _, _⟩ | ⟨b, cap, arr, el, hval, h2, h3, h4, hρ, _⟩
            · simp at i1; omega
            · refine OpOk.value (j := 0) (v := .pointer (some ⟨b, 0 + i.toNat * j.size, none⟩)) (by simp only [execOp, ho, hval, hi]; simp [run_indexAt e1 e4 w b 0 l.length cap kk i i0 i1]) h hk ?_ hn
              refine ⟨_, rfl, ⟨by rw [show (st.hand 0).lv = K.lv from hK.symm]; exact s1, by rw [show (st.hand 0).lv = K.lv from hK.symm]; exact s2⟩, ?_⟩
              have hnode : ((st.hand 0).at (q.child (.ix i.toNat e'.size))).node = st.key q := rfl
              rw [hnode, hρ]
              show _ = _
              simp [Pl.child, offOf, e5]
          · rw [if_neg hee] at hk; exact hk.elim
        · rename_i e' ow l i' a'
          by_cases hee : e' = e
          · subst hee
            rw [if_pos rfl] at hk
            obtain ⟨⟨i0, i1⟩, hk⟩ := hk
            obtain ⟨c, hc, _⟩ := hz rfl
            obtain ⟨⟨s1, s2⟩, b, cap, arr, el, hval, h2, h3, h4, hρ⟩ := vw_hole h hK hv hc
            refine OpOk.value (j := 0) (v := .pointer (some ⟨b, 0 + i.toNat * j.size, none⟩)) (by simp only [execOp, ho, hval, hi]; simp [run_indexAt e1 e4 w b 0 l.length cap kk i i0 i1]) h hk ?_ hn
            refine ⟨_, rfl, ⟨by rw [show (st.hand 0).lv = K.lv from hK.symm]; exact s1, by rw [show (st.hand 0).lv = K.lv from hK.symm]; exact s2⟩, ?_⟩
            have hnode : ((st.hand 0).at (q.child (.ix i.toNat e'.size))).node = st.key q := rfl
            rw [hnode, hρ]
            show _ = _
            simp [Pl.child, offOf, e5]
          · rw [if_neg hee] at hk; exact hk.elim
        · exact hk.elim
      · rw [if_neg ht] at hk; exact hk.elim
    · rename_i q e lo n
      by_cases ht : E.sh t = some (.sl e)
      · rw [if_pos ht, M.wp_bind] at hk
        obtain ⟨et, j, e1, e2, e3, e4, e5, _⟩ := sl_info hE ht
        replace hk := getPl_ok h hk
        obtain ⟨z, hk, hqk, hz⟩ := hk
        split at hk
        · rename_i e' ow l
          obtain ⟨⟨i0, i1⟩, hk⟩ := hk
          obtain ⟨c, hc, _⟩ := hz rfl
          obtain ⟨⟨s1, s2⟩, hh⟩ := sub_header h hK hv hc
          rcases hh with ⟨_, _, _, rfl, _⟩ | ⟨b, off, cap, hval, h2, h3, h4, hρ⟩
          · simp at i1; omega
          · refine OpOk.value (j := 0) (v := .pointer (some ⟨b, off + i.toNat * j.size, none⟩)) (by simp only [execOp, ho, hval, hi]; simp [run_indexAt e1 e4 w b off n cap kk i i0 i1]) h hk ?_ hn
            refine ⟨_, rfl, ⟨by rw [show (st.hand 0).lv = K.lv from hK.symm]; exact s1, by rw [show (st.hand 0).lv = K.lv from hK.symm]; exact s2⟩, ?_⟩
            have hnode : ((st.hand 0).at (q.child (.ix (lo + i.toNat) e.size))).node = st.key q := rfl
            rw [hnode, hρ]
            show _ = _
            have : off = lo * e.size := by rcases h4 with h4 | h4 <;> omega
            simp [Pl.child, offOf, e5, this, Nat.add_mul]
        · exact hk.elim
      · rw [if_neg ht] at hk; exact hk.elim
    · rename_i e l
      by_cases ht : E.sh t = some (.sl e)
      · rw [if_pos ht] at hk
        obtain ⟨et, j, e1, e2, e3, e4, e5, _⟩ := sl_info hE ht
        obtain ⟨⟨i0, i1⟩, hk⟩ := hk
        have hd : DR R.Z R.h (.sl e) l [a.eval x] := hv
        simp only [DR] at hd
        rcases hd with ⟨rfl, _⟩ | ⟨b, off, cap, arr, el, fr, hval, h2, h3, h4, h5⟩
        · simp at i1; omega
        · simp only [List.cons.injEq, and_true] at hval
          refine OpOk.value (j := 0) (v := .pointer (some ⟨b, off + i.toNat * j.size, none⟩)) (by simp only [execOp, ho, hval, hi]; simp [run_indexAt e1 e4 w b off l.length cap kk i i0 i1]) h hk ?_ hn
          obtain ⟨c, r, h6, h7⟩ := Seg.get e.dflt (fun _ _ => DR.length) l _ h5 i.toNat (by omega)
          exact ⟨b, off + i.toNat * j.size, arr, el, fr, c, r, rfl, h3, h4, by rw [e5, ← List.drop_drop]; exact h6, h7⟩
      · rw [if_neg ht] at hk; exact hk.elim
    · exact hk.elim
  · exact hk.elim

/-! ### Scalars -/

theorem cmpAV_run {P : Program} {op : BinOp} {x y : Int} {b : Bool} (h : cmpAV op x y = some b) (w : World) : (Op.intCmp op x y).run P w = .ok (.bool b) w := by
  cases op <;> simp [cmpAV] at h <;> subst h <;> simp [Op.intCmp]

theorem eqGuard_scalar {P : Program} (op : BinOp) (t : TypeId) (x y : Operand) (a b : Value) (w : World) (h : (∃ k n, a = .int k n) ∨ (∃ s, a = .string s) ∨ ∃ v, a = .bool v) : (eqGuard op t x y a b).run P w = .ok () w := by
  rcases h with ⟨k, n, rfl⟩ | ⟨s, rfl⟩ | ⟨v, rfl⟩ <;> cases op <;> simp [eqGuard]

theorem intAV_ok {P : Program} {C : Orc} {op : BinOp} {k : IntKind} {x y : Int} {st : St} {c : AV → St → Prop} (hs : op ≠ .shl) (hr : op ≠ .shr) (h : (intAV op k x y).wp C st c) (t : TypeId) (w : World) :
    ∃ u v, c u st ∧ (binOp op t (.int k x) (.int k y)).run P w = .ok v w ∧ ∀ (R : Cx) K, SV R u K v := by
  cases op <;> simp only [intAV, cmpAV, M.wp] at h
  all_goals first
    | exact absurd rfl hs
    | exact absurd rfl hr
    | exact h.elim
    | (refine ⟨_, _, h, ?_, fun R K => rfl⟩; simp only [binOp, ne_eq, not_true, if_false]; rfl)
    | (refine ⟨_, _, h.2, ?_, fun R K => rfl⟩; simp only [binOp, ne_eq, not_true, if_false, Op.intDiv]; rw [if_neg h.1]; rfl)

theorem shiftAV_ok {P : Program} {C : Orc} {op : BinOp} {k k' : IntKind} {x y : Int} {st : St} {c : AV → St → Prop} (h : (shiftAV op k x y).wp C st c) (hop : op = .shl ∨ op = .shr) (t : TypeId) (w : World) :
    ∃ u v, c u st ∧ (binOp op t (.int k x) (.int k' y)).run P w = .ok v w ∧ ∀ (R : Cx) K, SV R u K v := by
  rcases hop with rfl | rfl
  · simp only [shiftAV, M.wp] at h
    exact ⟨_, _, h.2, by simp [binOp, Op.shift, Int.not_lt.2 h.1], fun R K => rfl⟩
  · simp only [shiftAV, M.wp] at h
    exact ⟨_, _, h.2, by simp [binOp, Op.shift, Int.not_lt.2 h.1], fun R K => rfl⟩

theorem maxInt_eq : maxInt = IntKind.i64.max := by decide

theorem strAV_ok {P : Program} {C : Orc} {op : BinOp} {x y : ByteArray} {st : St} {c : AV → St → Prop} (h : (strAV op x y).wp C st c) (t : TypeId) (w : World) :
    ∃ u v, c u st ∧ (binOp op t (.string x) (.string y)).run P w = .ok v w ∧ ∀ (R : Cx) K, SV R u K v := by
  cases op <;> simp only [strAV, M.wp] at h <;> first
    | exact ⟨_, _, h.2, by simp only [binOp, Op.stringOp]; rw [if_neg (by rw [← maxInt_eq]; omega)]; rfl, fun R K => rfl⟩
    | exact ⟨_, _, h, by simp [binOp, Op.stringOp], fun R K => rfl⟩
    | exact h.elim

theorem binAV_ok {P : Program} {C : Orc} {op : BinOp} {a b : AV} {va vb : Value} {R : Cx} {Ka Kb : Key} (ha : SV R a Ka va) (hb : SV R b Kb vb) {st : St} {c : AV → St → Prop} (h : (binAV op a b).wp C st c) (t : TypeId) (ox oy : Operand) (w : World)
    (hty : ∀ x y, a = .d .bool x → b = .d .bool y → P.underlying t = some .bool) :
    ∃ u v, c u st ∧ (do eqGuard op t ox oy va vb; binOp op t va vb : Sem Value).run P w = .ok v w ∧ ∀ (R : Cx) K, SV R u K v := by
  unfold binAV at h
  split at h
  · rename_i k x k' y
    have e1 := SV_int ha
    have e2 := SV_int hb
    subst e1 e2
    have g := eqGuard_scalar (P := P) op t ox oy (.int k x) (.int k' y) w (.inl ⟨_, _, rfl⟩)
    have fin : ∀ {u v}, c u st → (binOp op t (.int k x) (.int k' y)).run P w = .ok v w → (∀ (R : Cx) K, SV R u K v) → ∃ u v, c u st ∧ (do eqGuard op t ox oy (.int k x) (.int k' y); binOp op t (.int k x) (.int k' y) : Sem Value).run P w = .ok v w ∧ ∀ (R : Cx) K, SV R u K v :=
      fun h1 h2 h3 => ⟨_, _, h1, by rw [Sem.run_bind, g, Result.andThen_ok, h2], h3⟩
    split at h
    · obtain ⟨u, v, h1, h2, h3⟩ := shiftAV_ok (P := P) (k' := k') h (.inl rfl) t w; exact fin h1 h2 h3
    · obtain ⟨u, v, h1, h2, h3⟩ := shiftAV_ok (P := P) (k' := k') h (.inr rfl) t w; exact fin h1 h2 h3
    · rename_i n1 n2
      by_cases hk : k = k'
      · subst hk
        rw [if_pos rfl] at h
        obtain ⟨u, v, h1, h2, h3⟩ := intAV_ok (P := P) (fun e => n1 e) (fun e => n2 e) h t w
        exact fin h1 h2 h3
      · rw [if_neg hk] at h; exact h.elim
  · rename_i x y
    have e1 := SV_str ha
    have e2 := SV_str hb
    subst e1 e2
    obtain ⟨u, v, h1, h2, h3⟩ := strAV_ok (P := P) h t w
    exact ⟨u, v, h1, by rw [Sem.run_bind, eqGuard_scalar op t ox oy _ _ w (.inr (.inl ⟨_, rfl⟩)), Result.andThen_ok, h2], h3⟩
  · rename_i x y
    have e1 := SV_bool ha
    have e2 := SV_bool hb
    subst e1 e2
    have hu := hty x y rfl rfl
    have g := eqGuard_scalar (P := P) op t ox oy (.bool x) (.bool y) w (.inr (.inr ⟨_, rfl⟩))
    split at h
    · exact ⟨_, _, h, by rw [Sem.run_bind, g, Result.andThen_ok]; simp [binOp, run_equal_bool w t x y hu], fun R K => rfl⟩
    · exact ⟨_, _, h, by rw [Sem.run_bind, g, Result.andThen_ok]; simp [binOp, run_equal_bool w t x y hu], fun R K => rfl⟩
    · exact h.elim
  · exact h.elim

theorem OpOk.binOp {P : Program} {E : Env} (hE : EnvOk P E) {C : Orc} {o : Oper} {op : BinOp} {t t' : TypeId} {x y : Operand} (ho : o.op = .binOp op t x y t') : OpOk P E C o := by
  intro w0 st a ts R w k next Q h hw hn
  simp only [evOp, ho, M.wp_bind] at hw
  obtain ⟨v, hk, ⟨K, hK, hv⟩, hq1, hq2⟩ := rawOp_ok h hw
  replace hk := rawOp_ok h hk
  obtain ⟨u, hk, ⟨K', hK', hu⟩, hq3, hq4⟩ := hk
  have fin : (binAV op v u).wp C st (fun z st' => (dstT o z).wp C st' k) → (∀ x y, v = .d .bool x → u = .d .bool y → P.underlying t = some .bool) → o.wp P a w next Q := by
    intro hk hty
    obtain ⟨z, val, h1, h2, h3⟩ := binAV_ok (P := P) hv hu hk t x y w hty
    refine OpOk.value (j := 0) (v := val) ?_ h h1 (h3 _ _) hn
    simp only [execOp, ho, Sem.run_bind, Sem.run_pure] at h2 ⊢
    rw [h2]; rfl
  split at hk
  · rename_i b
    by_cases ht : E.sh t = some .bool
    · rw [if_pos ht, M.wp_bind] at hk
      refine fin hk (fun _ _ _ _ => ?_)
      have := hE.sh _ _ ht
      simp only [tyB] at this
      split at this
      · simp at this
      · simp only [Bool.and_eq_true] at this
        obtain ⟨_, this⟩ := this
        cases hd : P.underlying t with
        | none => simp [hd] at this
        | some d => rw [hd] at this; cases d <;> simp at this; rfl
    · rw [if_neg ht] at hk; exact hk.elim
  · rename_i hnb
    rw [M.wp_bind] at hk
    exact fin hk (fun b _ e _ => absurd e (hnb b))

theorem unAV_ok {P : Program} {C : Orc} {op : UnOp} {a : AV} {va : Value} {R : Cx} {Ka : Key} (ha : SV R a Ka va) {st : St} {c : AV → St → Prop} (h : (unAV op a).wp C st c) (w : World) :
    ∃ u v, c u st ∧ (Op.unary op va).run P w = .ok v w ∧ ∀ (R : Cx) K, SV R u K v := by
  unfold unAV at h
  split at h
  · have e := SV_int ha
    subst e
    split at h
    · exact ⟨_, _, h, rfl, fun R K => rfl⟩
    · exact h.elim
  · have e := SV_bool ha
    subst e
    split at h
    · exact ⟨_, _, h, rfl, fun R K => rfl⟩
    · exact h.elim
  · exact h.elim

theorem OpOk.unOp {P : Program} {E : Env} {C : Orc} {o : Oper} {op : UnOp} {t : TypeId} {x : Operand} (ho : o.op = .unOp op t x) : OpOk P E C o := by
  intro w0 st a ts R w k next Q h hw hn
  simp only [evOp, ho, M.wp_bind] at hw
  obtain ⟨v, hk, ⟨K, hK, hv⟩, hq1, hq2⟩ := rawOp_ok h hw
  obtain ⟨u, val, h1, h2, h3⟩ := unAV_ok (P := P) hv hk w
  exact OpOk.value (j := 0) (v := val) (by simp only [execOp, ho]; simp [h2]) h h1 (h3 _ _) hn

theorem tyB_fn {P : Program} {E : Env} {t : TypeId} {f : Nat} {c : Sh} : tyB P E t (.fn f c) = false := by
  unfold tyB
  split
  · rfl
  · split <;> simp_all

theorem tyB_ptr {P : Program} {E : Env} {t : TypeId} {s : Sh} : tyB P E t (.ptr s) = false := by
  unfold tyB
  split
  · rfl
  · split <;> simp_all

theorem tyB_scalar {P : Program} {E : Env} {t : TypeId} {s : Sh} (h : tyB P E t s = true) : (∀ k, s = .int k → P.underlying t = some (.int k)) ∧ (s = .str → P.underlying t = some .string) ∧ (s = .bool → P.underlying t = some .bool) := by
  simp only [tyB] at h
  split at h
  · simp at h
  · simp only [Bool.and_eq_true] at h
    obtain ⟨_, h⟩ := h
    cases hu : P.underlying t with
    | none => simp [hu] at h
    | some d =>
      rw [hu] at h
      refine ⟨?_, ?_, ?_⟩
      · rintro k rfl; cases d <;> simp at h; rw [h]
      · rintro rfl; cases d <;> simp at h; rfl
      · rintro rfl; cases d <;> simp at h; rfl

theorem toNat_lt' {n : Int} {m : Nat} (h0 : 0 ≤ n) (h1 : n < (m : Int)) : n.toNat < m := by omega

theorem OpOk.nilCheck {P : Program} {E : Env} {C : Orc} {o : Oper} {x : Operand} (ho : o.op = .nilCheck x) : OpOk P E C o := by
  intro w0 st a ts R w k next Q h hw hn
  simp only [evOp, ho, M.wp_bind] at hw
  obtain ⟨v, hk, ⟨K, hK, hv⟩, hq1, hq2⟩ := rawOp_ok h hw
  split at hk
  · rename_i q
    by_cases hm : q.mem = true
    · rw [if_pos hm, M.wp_bind] at hk
      obtain ⟨y, hy, _, hb, c, hc, ha⟩ := lookPl_ok h hk
      obtain ⟨b, arr, el, r, e1, _⟩ := ptr_at h hK hv (ha hm)
      exact OpOk.value (j := 0) (by simp only [execOp, ho, e1]; rfl) h hy (e1 ▸ SV.move rfl (by rw [hK]; rfl) hv) hn
    · rw [if_neg hm] at hk; exact hk.elim
  · rename_i s y
    obtain ⟨b, off, arr, el, fr, c, r, e, hz, hh, hd, hx⟩ : VR R (.dp s y) K [a.eval x] := hv
    simp only [List.cons.injEq, and_true] at e
    exact OpOk.value (j := 0) (by simp only [execOp, ho, e]; rfl) h hk ⟨b, off, arr, el, fr, c, r, rfl, hz, hh, hd, hx⟩ hn
  · rename_i f
    have e : [a.eval x] = [Value.func (.func f) #[] #[]] := hv
    simp only [List.cons.injEq, and_true] at e
    exact OpOk.value (j := 0) (by simp only [execOp, ho, e]; rfl) h hk rfl hn
  · exact hk.elim

end Go.Proofs.Ytlndfmmigndgeaa.Ev

/- Conversions, slices of slices, lengths, fields. -/
namespace Go.Proofs.Ytlndfmmigndgeaa.Ev
open Go
set_option linter.unusedSimpArgs false
set_option linter.unusedVariables false

theorem tyB_und {P : Program} {E : Env} {t : TypeId} {s : Sh} (h : tyB P E t s = true) : ∃ d, P.underlying t = some d := by
  obtain ⟨d, hd, _⟩ := tyB_agg h
  exact ⟨d, hd⟩

theorem txt_cells {P : Program} {w : World} {b off : Nat} {arr : Array Value} {el : TypeId} {fr : Nat × Nat} (hh : w.heap[b]? = some (.cells arr el fr)) (l : List Int) (hs : Seg (fun (x : Int) c => c = [Value.int .u8 x]) l (arr.toList.drop off)) :
    (loadCells ⟨b, off, none⟩ l.length).run P w = .ok (l.map (Value.int .u8)).toArray w := by
  have hp : ∀ (l : List Int) (cs : List Value), Seg (fun (x : Int) c => c = [Value.int .u8 x]) l cs → ∀ (j : Nat) (v : Value), (l.map (Value.int .u8))[j]? = some v → cs[j]? = some v := by
    intro l
    induction l with
    | nil => intro cs _ j v h; simp at h
    | cons x l ih =>
      intro cs h j v hv
      obtain ⟨c, r, rfl, rfl, h2⟩ := h
      cases j with
      | zero => simpa using hv
      | succ j => simpa using ih r h2 j v (by simpa using hv)
  have := run_loadCells_list (P := P) w ⟨b, off, none⟩ (l.map (Value.int .u8)) (fun j v hj => by
    have := hp l _ hs j v hj
    rw [addr_add]
    simp only [World.cell?, hh]
    rw [List.getElem?_drop] at this
    simpa using this)
  simpa using this

theorem txtAV_ok {P : Program} {C : Orc} {w0 : Base} {w : World} {st : St} {a : Act} {ts : List (Array Value)} {R : Cx} (h : Rel w0 st (a.tmps :: ts) R w) {v : AV} {K : Key} {val : Value} (hK : K.lv = st.length - 1) (hv : SV R v K val) {k : AV → St → Prop}
    (hw : (txtAV v).wp C st k) : ∃ s, k (.d .str s) st ∧ ∃ ad n c, val = .slice ad n c ∧ (Conv.bytesToString (.slice ad n c)).run P w = .ok (.string s) w := by
  have toSeg : ∀ {Q : Nat → Int → List Value → Prop}, (∀ i x c, Q i x c → c = [Value.int .u8 x]) → ∀ {l : List Int} {i : Nat} {cs : List Value}, SegI Q i l cs → Seg (fun (x : Int) c => c = [Value.int .u8 x]) l cs := by
    intro Q hQ l
    induction l with
    | nil => intro _ _ _; trivial
    | cons x l ih => intro i cs hs; obtain ⟨c, r, e, h1, h2⟩ := hs; exact ⟨c, r, e, hQ _ _ _ h1, ih h2⟩
  have nilRun : (Conv.bytesToString (.slice none 0 0)).run P w = .ok (.string (toTxt [])) w := rfl
  unfold txtAV at hw
  split at hw
  · rename_i l
    refine ⟨_, hw, ?_⟩
    have hd : DR R.Z R.h (.sl (.int .u8)) l [val] := hv
    simp only [DR] at hd
    rcases hd with ⟨rfl, ad, cp, hval⟩ | ⟨b, off, cap, arr, el, fr, hval, _, _, hh, hs⟩
    · simp only [List.cons.injEq, and_true] at hval
      refine ⟨ad, 0, cp, hval, ?_⟩
      cases ad with
      | none => rfl
      | some ad => exact run_bytesToString w ad 0 cp [] rfl
    · simp only [List.cons.injEq, and_true] at hval
      rw [h.hh] at hh
      exact ⟨_, _, _, hval, run_bytesToString w _ _ _ l (txt_cells hh l hs)⟩
  · rename_i l
    refine ⟨_, hw, ?_⟩
    have hd : OR R (.sl (.int .u8)) (.ow .fz) K l [val] := hv
    simp only [OR] at hd
    rcases hd with ⟨_, rfl, hval⟩ | ⟨b, cap, arr, el, _, hval, _, _, hh, hs⟩
    · simp only [List.cons.injEq, and_true] at hval; exact ⟨_, _, _, hval, nilRun⟩
    · simp only [List.cons.injEq, and_true] at hval
      rw [h.hh] at hh
      exact ⟨_, _, _, hval, run_bytesToString w _ _ _ l (txt_cells (off := 0) hh l (toSeg (fun _ _ _ h => h) hs))⟩
  · rename_i q
    rw [M.wp_bind] at hw
    replace hw := getPl_ok h hw
    obtain ⟨z, hk, hqk, hz⟩ := hw
    split at hk
    · rename_i l
      obtain ⟨c, hc, _⟩ := hz rfl
      obtain ⟨_, hh⟩ := vw_header h hK hv hc
      refine ⟨_, hk, ?_⟩
      rcases hh with ⟨rfl, e1, _⟩ | ⟨b, cap, arr, el, e1, _, _, hh, _, hs⟩
      · exact ⟨_, _, _, e1, nilRun⟩
      · exact ⟨_, _, _, e1, run_bytesToString w _ _ _ l (txt_cells (off := 0) hh l (toSeg (fun _ _ _ h => h) hs))⟩
    · exact hk.elim
  · exact hw.elim

theorem OpOk.convert {P : Program} {E : Env} (hE : EnvOk P E) {C : Orc} {o : Oper} {f t : TypeId} {x : Operand} (ho : o.op = .convert f t x) : OpOk P E C o := by
  intro w0 st a ts R w k next Q h hw hn
  simp only [evOp, ho] at hw
  by_cases hf : (E.sh f).isSome = true
  · rw [if_pos hf, M.wp_bind] at hw
    obtain ⟨sf, hsf⟩ := Option.isSome_iff_exists.1 hf
    obtain ⟨df, hdf⟩ := tyB_und (hE.sh _ _ hsf)
    obtain ⟨v, hk, ⟨K, hK, hv⟩, hq1, hq2⟩ := rawOp_ok h hw
    split at hk
    · rename_i k' n
      have e1 := SV_int hv
      split at hk
      · rename_i kk hs
        have hu := (tyB_scalar (hE.sh _ _ hs)).1 kk rfl
        exact OpOk.value (j := 0) (v := .int kk (kk.wrap n)) (by simp only [execOp, ho, e1]; cases df <;> simp [Go.convert, run_underlying hdf, run_underlying hu, Conv.intToInt]) h hk rfl hn
      · exact hk.elim
    · rename_i s
      have e1 := SV_str hv
      by_cases hs : E.sh t = some .str
      · rw [if_pos hs] at hk
        have hu := (tyB_scalar (hE.sh _ _ hs)).2.1 rfl
        exact OpOk.value (j := 0) (v := .string s) (by simp only [execOp, ho, e1]; cases df <;> simp [Go.convert, run_underlying hdf, run_underlying hu]) h hk rfl hn
      · rw [if_neg hs] at hk; exact hk.elim
    · by_cases hc : E.sh f = some (.sl (.int .u8)) ∧ E.sh t = some .str
      · rw [if_pos hc, M.wp_bind] at hk
        obtain ⟨s, hk, ad, n, c, e1, hrun⟩ := txtAV_ok (P := P) h hK hv hk
        obtain ⟨et, ie, u1, u2, _⟩ := sl_info hE hc.1
        have u3 := (tyB_scalar (hE.sh _ _ u2)).1 _ rfl
        have hu := (tyB_scalar (hE.sh _ _ hc.2)).2.1 rfl
        refine OpOk.value (j := 0) (v := .string s) ?_ h hk rfl hn
        simp only [execOp, ho, e1, Sem.run_bind]
        rw [run_convert_bytes_string w f t et ad n c u1 u3 hu, hrun]
        rfl
      · rw [if_neg hc] at hk; exact hk.elim
  · rw [if_neg hf] at hw; exact hw.elim

/-! ### Bounds -/

def OptR (R : Cx) (N : Nat) : Option AV → Option Value → Prop
  | none, none => True
  | some v, some u => ∃ K : Key, K.lv = N ∧ SV R v K u
  | _, _ => False

theorem optOp_ok {C : Orc} {w0 : Base} {w : World} {st : St} {a : Act} {ts : List (Array Value)} {R : Cx} (h : Rel w0 st (a.tmps :: ts) R w) {x : Option Operand} {k : Option AV → St → Prop} (hw : (optOp x).wp C st k) :
    ∃ v, k v st ∧ OptR R (st.length - 1) v (x.map a.eval) := by
  cases x with
  | none => exact ⟨none, hw, trivial⟩
  | some x =>
    simp only [optOp, M.wp_bind] at hw
    obtain ⟨v, hk, ⟨K, hK, hv⟩, _⟩ := rawOp_ok h hw
    exact ⟨some v, hk, K, hK, hv⟩

theorem sliceBounds_ok {P : Program} {C : Orc} {R : Cx} {N : Nat} {lo hi : Option AV} {vlo vhi : Option Value} (hl : OptR R N lo vlo) (hh : OptR R N hi vhi) {n : Nat} {g : Nat → Nat → M AV} {st : St} {k : AV → St → Prop}
    (hw : (sliceBounds lo hi n g).wp C st k) : ∃ l h, l ≤ h ∧ h ≤ n ∧ (g l h).wp C st k ∧ ∀ (b : Bool) (cap : Nat) (w : World), n ≤ cap → (Instr.sliceBounds b n cap vlo vhi none).run P w = .ok (l, h, cap) w := by
  have low : ∀ (h : Int), 0 ≤ h → h ≤ (n : Int) → (sliceLo lo h g).wp C st k → (∀ (b : Bool) (cap : Nat) (w : World), n ≤ cap → (match vhi with
          | some v => Instr.sliceBound v cap (if b then .sliceAcap else .sliceAlen)
          | none => pure n : Sem Nat).run P w = .ok h.toNat w) →
      ∃ l h, l ≤ h ∧ h ≤ n ∧ (g l h).wp C st k ∧ ∀ (b : Bool) (cap : Nat) (w : World), n ≤ cap → (Instr.sliceBounds b n cap vlo vhi none).run P w = .ok (l, h, cap) w := by
    intro h h0 h1 hg hi'
    unfold sliceLo at hg
    cases lo with
    | none =>
      cases vlo with
      | some => exact hl.elim
      | none =>
        refine ⟨0, h.toNat, by omega, by omega, hg, ?_⟩
        intro b cap w hc
        have := hi' b cap w hc
        cases vhi with
        | none => simp only [Sem.run_pure, Result.ok.injEq, and_true] at this; simp [Instr.sliceBounds, ← this]
        | some v => simp [Instr.sliceBounds, this]
    | some v =>
      cases vlo with
      | none => exact hl.elim
      | some u =>
        obtain ⟨K, _, hv⟩ := hl
        split at hg
        · rename_i e; simp at e
        · rename_i k' l e
          simp only [Option.some.injEq] at e
          subst e
          have e1 := SV_int hv
          subst e1
          obtain ⟨⟨l0, l1⟩, hg⟩ := hg
          have q1 : Int.toNat l ≤ h.toNat := Int.toNat_le_toNat l1
          have q2 : (l : Int) ≤ ((h.toNat : Nat) : Int) := by rw [Int.toNat_of_nonneg h0]; exact l1
          refine ⟨Int.toNat l, h.toNat, q1, by omega, hg, ?_⟩
          intro b cap w hc
          have := hi' b cap w hc
          have hb := run_sliceBound (P := P) w k' l h.toNat .sliceB l0 q2
          cases vhi with
          | none =>
            simp only [Sem.run_pure, Result.ok.injEq, and_true] at this
            simp only [← this] at hb ⊢
            simp [Instr.sliceBounds, hb]
          | some v => simp [Instr.sliceBounds, this, hb]
        · exact hg.elim
  unfold sliceBounds sliceHi at hw
  split at hw
  · cases vhi with
    | some => exact hh.elim
    | none => exact low n (by omega) (by omega) hw (fun b cap w hc => by simp)
  · rename_i k' h
    cases vhi with
    | none => exact hh.elim
    | some u =>
      obtain ⟨K, _, hv⟩ := hh
      have e1 := SV_int hv
      subst e1
      obtain ⟨⟨h0, h1⟩, hw⟩ := hw
      refine low h h0 h1 hw (fun b cap w hc => ?_)
      exact run_sliceBound (P := P) w k' h cap _ h0 (Int.le_trans h1 (by omega))
  · exact hw.elim

theorem seg_drop {α : Type} {Q : α → List Value → Prop} {z : Nat} (hz : ∀ x c, Q x c → c.length = z) : ∀ (l : List α) (cs : List Value), Seg Q l cs → ∀ n, n ≤ l.length → Seg Q (l.drop n) (cs.drop (n * z)) := by
  intro l
  induction l with
  | nil => intro cs _ n hn; simp at hn; subst hn; simp [Seg]
  | cons x xs ih =>
    intro cs h n hn
    cases n with
    | zero => simpa using h
    | succ n =>
      obtain ⟨c, r, rfl, h1, h2⟩ := h
      have := ih r h2 n (by simpa using hn)
      have e : List.drop ((n + 1) * z) (c ++ r) = List.drop (n * z) r := by
        rw [Nat.succ_mul, Nat.add_comm (n * z) z, List.drop_append, hz _ _ h1]
        simp only [Nat.add_sub_cancel_left]
        rw [List.drop_eq_nil_of_le (by rw [hz _ _ h1]; omega), List.nil_append]
      rw [e]
      exact this

theorem seg_take {α : Type} {Q : α → List Value → Prop} : ∀ (l : List α) (cs : List Value), Seg Q l cs → ∀ n, Seg Q (l.take n) cs := by
  intro l
  induction l with
  | nil => intro cs _ n; simp [Seg]
  | cons x xs ih =>
    intro cs h n
    cases n with
    | zero => simp [Seg]
    | succ n =>
      obtain ⟨c, r, rfl, h1, h2⟩ := h
      exact ⟨c, r, rfl, h1, ih _ h2 n⟩

theorem run_slice_of {P : Program} {t et : TypeId} {j : TypeInfo} (hu : P.underlying t = some (.slice et)) (hj : P.info? et = some j) {len cap l h : Nat} {a : Option Addr} {vlo vhi : Option Value} {w : World}
    (hb : (Instr.sliceBounds true len cap vlo vhi none).run P w = .ok (l, h, cap) w) : (Instr.slice t (.slice a len cap) vlo vhi none).run P w = .ok (.slice (if cap = l then a else a.map (·.add (l * j.size))) (h - l) (cap - l)) w := by
  simp [Instr.slice, run_underlying hu, hb, run_size hj]

theorem Rel.step2 {w0 : Base} {st st' : St} {ts : List (Array Value)} {R R' : Cx} {w w' : World} (h : Rel w0 st ts R w)
    (hlen : st'.length = st.length) (hfr : ∀ i : Nat, (st'[i]?).map List.length = (st[i]?).map List.length)
    (hh : R'.h = w'.heap) (hfl : ∀ lv s bx, R'.fl lv s bx = st'.fl lv s bx)
    (hv : ∀ i s sl', st'.get i s = some sl' → ∃ sl, st.get i s = some sl ∧ ((sl'.v.le sl.v ∧ R.Ok R' (st.kv i s) sl'.v) ∨ (∀ t : Array Value, ts[i]? = some t → SV R' sl'.v (st.kv i s) (t.getD s undef))))
    (hb : ∀ i s sl', st'.get i s = some sl' → ∃ sl, st.get i s = some sl ∧ ((sl'.b.le sl.b ∧ R.Ok R' (st.kb i s) sl'.b) ∨ BoxR R' sl'.b (st.kb i s)))
    (inj : R'.Inj) (zd : ∀ b, R'.Z b → ∀ K n, R'.ρ K ≠ some (.blk b n)) (lo : ∀ K b n, R'.ρ K = some (.blk b n) → w0.heap.size ≤ b)
    (lt : ∀ K b n, R'.ρ K = some (.blk b n) → b < w'.heap.size) (zlt : ∀ b, R'.Z b → b < w'.heap.size) (bel : RowKit.Below w0.heap.size w0.toWorld w') (hz' : ∀ b, R'.Z b → R.Z b ∨ w0.heap.size ≤ b := by exact fun _ hb => .inl hb) : Rel w0 st' ts R' w' := by
  have kv : ∀ i s, st'.kv i s = st.kv i s := by intro i s; simp [St.kv, hlen]
  have kb : ∀ i s, st'.kb i s = st.kb i s := by intro i s; simp [St.kb, hlen]
  refine ⟨hh, hfl, by rw [hlen, h.len], ?_, ?_, ?_, inj, zd, lo, lt, zlt, bel, (fun b hb => (hz' b hb).elim (h.zlo b) .inr)⟩
  · intro i f t hf ht'
    have hm := hfr i
    rw [hf] at hm
    cases hs : st[i]? with
    | none => rw [hs] at hm; simp at hm
    | some g =>
      rw [hs] at hm
      simp only [Option.map_some, Option.some.injEq] at hm
      rw [hm]
      exact h.sz i g t hs ht'
  · intro i s sl' t hg ht'
    obtain ⟨sl, hsl, hc⟩ := hv i s sl' hg
    rw [kv]
    rcases hc with ⟨hle, hok⟩ | hsv
    · exact SV.frame hle hok.1 hok.2 (h.slot i s sl t hsl ht')
    · exact hsv t ht'
  · intro i s sl' hg
    obtain ⟨sl, hsl, hc⟩ := hb i s sl' hg
    rw [kb]
    rcases hc with ⟨hle, hok⟩ | hbx
    · exact BoxR.frame hle hok.1 hok.2 (h.box i s sl hsl)
    · exact hbx

theorem Rel.flag {w0 : Base} {w : World} {st : St} {ts : List (Array Value)} {R : Cx} (h : Rel w0 st ts R w) {t : Nat} {s : Slot} (hg : st.get 0 t = some s) : ∃ R', Rel w0 (st.set 0 t { s with fv := true }) ts R' w := by
  let st' : St := st.set 0 t { s with fv := true }
  let R' : Cx := { R with fl := st'.fl }
  have hfl : ∀ lv n bx, R.fl lv n bx = true → R'.fl lv n bx = true := by
    intro lv n bx e
    rw [h.fl] at e
    have hl : st'.length = st.length := St.length_set ..
    show st'.fl lv n bx = true
    simp only [St.fl, hl, Bool.and_eq_true] at e ⊢
    refine ⟨e.1, ?_⟩
    by_cases hc : st.length - 1 - lv = 0 ∧ n = t
    · have e2 := e.2
      rw [hc.1, hc.2, hg] at e2
      rw [hc.1, hc.2, St.get_set, if_pos ⟨rfl, rfl⟩, hg]
      cases bx
      · rfl
      · exact e2
    · rw [St.get_set, if_neg hc]; exact e.2
  have ok : ∀ K b, R.Ok R' K b := fun K b => ⟨⟨fun _ => id, fun _ _ _ => id, fun _ _ => rfl, fun _ _ _ _ _ _ => id⟩, fun T hT e => ⟨hfl _ _ _ e, .inr ⟨rfl, fun b n arr el _ e => ⟨arr, e, rfl⟩⟩⟩⟩
  refine ⟨R', h.step2 (St.length_set ..) (fun i => St.frames_set ..) h.hh (fun _ _ _ => rfl) ?_ ?_ h.inj h.zd h.lo h.lt h.zlt h.bel⟩
  · intro i n sl' hg'
    rw [St.get_set] at hg'
    split at hg'
    · rename_i hc
      obtain ⟨rfl, rfl⟩ := hc
      rw [hg] at hg'
      simp only [Option.map_some, Option.some.injEq] at hg'
      subst hg'
      exact ⟨s, hg, .inl ⟨AV.le_refl _, ok _ _⟩⟩
    · exact ⟨sl', hg', .inl ⟨AV.le_refl _, ok _ _⟩⟩
  · intro i n sl' hg'
    rw [St.get_set] at hg'
    split at hg'
    · rename_i hc
      obtain ⟨rfl, rfl⟩ := hc
      rw [hg] at hg'
      simp only [Option.map_some, Option.some.injEq] at hg'
      subst hg'
      exact ⟨s, hg, .inl ⟨AV.le_refl _, ok _ _⟩⟩
    · exact ⟨sl', hg', .inl ⟨AV.le_refl _, ok _ _⟩⟩

theorem flagOps_ok {C : Orc} {w0 : Base} {w : World} {ts : List (Array Value)} : ∀ {xs : List Operand} {st : St} {R : Cx} (h : Rel w0 st ts R w) {k : Unit → St → Prop}, (flagOps xs).wp C st k → ∃ st1 R1, k () st1 ∧ Rel w0 st1 ts R1 w := by
  intro xs
  induction xs with
  | nil => intro st R h k hw; exact ⟨st, R, hw, h⟩
  | cons x xs ih =>
    intro st R h k hw
    cases x with
    | tmp t =>
      simp only [flagOps, M.wp_rd] at hw
      obtain ⟨s, hs, hw⟩ := hw
      split at hw
      · rw [M.wp_wr] at hw
        obtain ⟨R1, h1⟩ := h.flag hs
        exact ih h1 hw.2
      · exact ih h hw
    | _ => exact ih h hw

theorem sliceOp_ok {C : Orc} {w0 : Base} {w : World} {st : St} {a : Act} {ts : List (Array Value)} {R : Cx} (h : Rel w0 st (a.tmps :: ts) R w) {x : Operand} {k : AV → St → Prop} (hw : (sliceOp x).wp C st k) :
    ∃ st1 R1, Rel w0 st1 (a.tmps :: ts) R1 w ∧ ∃ v, k v st1 ∧ ∃ K, K.lv = st1.length - 1 ∧ SV R1 v K (a.eval x) := by
  unfold sliceOp at hw
  rw [M.wp_bind] at hw
  obtain ⟨v, hk, ⟨K, hK, hv⟩, _⟩ := rawOp_ok h hw
  by_cases ho : v.hasOwn = true
  · rw [if_pos ho, M.wp_bind] at hk
    obtain ⟨st1, R1, hk, h1⟩ := flagOps_ok h hk
    obtain ⟨v2, hk2, _, hv2⟩ := viewOp_ok h1 hk
    exact ⟨st1, R1, h1, v2, hk2, ⟨st1.length - 1, 0, false, []⟩, rfl, hv2 _ rfl⟩
  · rw [if_neg ho] at hk
    exact ⟨st, R, h, v, hk, K, hK, hv⟩
theorem OpOk.slice {P : Program} {E : Env} (hE : EnvOk P E) {C : Orc} {o : Oper} {t : TypeId} {x : Operand} {lo hi : Option Operand} (ho : o.op = .slice t x lo hi none) : OpOk P E C o := by
  intro w0 st a ts R w k next Q h hw hn
  simp only [evOp, ho, M.wp_bind] at hw
  obtain ⟨st, R, h, v, hk, K, hK, hv⟩ := sliceOp_ok h hw
  replace hk := optOp_ok h hk
  obtain ⟨vl, hk, hl⟩ := hk
  replace hk := optOp_ok h hk
  obtain ⟨vh, hk, hh⟩ := hk
  have fin : ∀ {vv : Value} {y : AV} {d : TypeDesc}, P.underlying t = some d → rowB d = false → (Instr.slice t (a.eval x) (lo.map a.eval) (hi.map a.eval) none).run P w = .ok vv w → (dstT o y).wp C st k → SV R y (st.hand 0) vv → o.wp P a w next Q := by
    intro vv y d hu hd hr hk hy
    have hat : (Instr.sliceAt t (a.eval x) (lo.map a.eval) (hi.map a.eval) none).run P w = .ok vv w := by
      rw [← hr]
      cases d <;> simp [rowB] at hd <;> simp [Instr.sliceAt, run_underlying hu]
    exact OpOk.value (j := 0) (v := vv) (by simp only [execOp, ho, Option.map_none, Sem.run_bind, hat, Result.andThen_ok]; rfl) h hk hy hn
  have hlv : (st.hand 0).lv = K.lv := hK.symm
  unfold sliceAV at hk
  split at hk
  · rename_i s
    by_cases ht : E.sh t = some .str
    · rw [if_pos ht] at hk
      obtain ⟨l, hgh, e1, e2, hk, hrun⟩ := sliceBounds_ok (P := P) hl hh hk
      have hu := (tyB_scalar (hE.sh _ _ ht)).2.1 rfl
      have e3 := SV_str hv
      exact fin (vv := .string (ByteArray.extract s l hgh)) hu rfl (by rw [e3]; simp [Instr.slice, run_underlying hu, hrun false _ w (Nat.le_refl _)]) hk rfl
    · rw [if_neg ht] at hk; exact hk.elim
  · rename_i e s
    by_cases ht : E.sh t = some (.sl e)
    · rw [if_pos ht] at hk
      obtain ⟨et, j, u1, u2, u3, u4, u5, _⟩ := sl_info hE ht
      obtain ⟨l, hgh, e1, e2, hk, hrun⟩ := sliceBounds_ok (P := P) hl hh hk
      have hd : DR R.Z R.h (.sl e) s [a.eval x] := hv
      simp only [DR] at hd
      rcases hd with ⟨rfl, ad, cp, hval⟩ | ⟨b, off, cap, arr, el, fr, hval, h2, h3, h4, h5⟩
      · simp only [List.cons.injEq, and_true] at hval
        simp only [List.length_nil, Nat.le_zero] at e2
        subst e2
        have : l = 0 := by omega
        subst this
        refine fin u1 rfl (by rw [hval]; exact run_slice_of u1 u4 (hrun true cp w (Nat.zero_le _))) hk ?_
        show DR R.Z R.h (.sl e) _ _
        simp only [DR]
        exact .inl ⟨by simp, _, _, rfl⟩
      · simp only [List.cons.injEq, and_true] at hval
        refine fin u1 rfl (by rw [hval]; exact run_slice_of u1 u4 (hrun true cap w h2)) hk ?_
        show DR R.Z R.h (.sl e) _ _
        simp only [DR]
        have hlen : (List.take (hgh - l) (List.drop l s)).length = hgh - l := by simp only [List.length_take, List.length_drop]; omega
        by_cases hc : cap = l
        · rw [if_pos hc]
          have hz : hgh - l = 0 := by omega
          refine .inr ⟨b, off, cap - l, arr, el, fr, by rw [hlen], by omega, h3, h4, ?_⟩
          rw [hz]; simp [Seg]
        · rw [if_neg hc]
          refine .inr ⟨b, off + l * j.size, cap - l, arr, el, fr, by rw [hlen]; simp [addr_add], by omega, h3, h4, ?_⟩
          refine seg_take _ _ ?_ _
          rw [← List.drop_drop, u5]
          exact seg_drop (fun _ _ => DR.length) _ _ h5 l (by omega)
    · rw [if_neg ht] at hk; exact hk.elim
  · rename_i q e
    by_cases ht : E.sh t = some (.sl e)
    · rw [if_pos ht, M.wp_bind] at hk
      obtain ⟨et, j, u1, u2, u3, u4, u5, _⟩ := sl_info hE ht
      replace hk := getPl_ok h hk
      obtain ⟨z, hk, hqk, hz⟩ := hk
      split at hk
      · rename_i e' ow s
        by_cases hee : e' = e
        · subst hee
          rw [if_pos rfl] at hk
          obtain ⟨c, hc, _⟩ := hz rfl
          obtain ⟨⟨s1, s2⟩, hhd⟩ := vw_header h hK hv hc
          obtain ⟨l, hgh, e1, e2, hk, hrun⟩ := sliceBounds_ok (P := P) hl hh hk
          rcases hhd with ⟨rfl, hval, hρ⟩ | ⟨b, cap, arr, el, hval, h2, h3, h4, hρ, _⟩
          · simp only [List.length_nil, Nat.le_zero] at e2
            subst e2
            have : l = 0 := by omega
            subst this
            refine fin u1 rfl (by rw [hval]; exact run_slice_of u1 u4 (hrun true 0 w (Nat.le_refl _))) hk ?_
            refine ⟨_, rfl, ⟨by rw [hlv]; exact s1, by rw [hlv]; exact s2⟩, ?_⟩
            rw [at_key (by rfl), hρ]
            simp [SubR]
          · refine fin u1 rfl (by rw [hval]; exact run_slice_of u1 u4 (hrun true cap w h2)) hk ?_
            refine ⟨_, rfl, ⟨by rw [hlv]; exact s1, by rw [hlv]; exact s2⟩, ?_⟩
            rw [at_key (by rfl), hρ]
            by_cases hc : cap = l
            · rw [if_pos hc]; exact ⟨0, cap - l, rfl, by omega, by omega, .inl (by omega)⟩
            · rw [if_neg hc]; exact ⟨l * j.size, cap - l, by simp [addr_add], by omega, by omega, .inr (by rw [u5])⟩
        · rw [if_neg hee] at hk; exact hk.elim
      · exact hk.elim
    · rw [if_neg ht] at hk; exact hk.elim
  · rename_i q e lo' n
    by_cases ht : E.sh t = some (.sl e)
    · rw [if_pos ht, M.wp_bind] at hk
      obtain ⟨et, j, u1, u2, u3, u4, u5, _⟩ := sl_info hE ht
      replace hk := getPl_ok h hk
      obtain ⟨z, hk, hqk, hz⟩ := hk
      split at hk
      · rename_i e' ow s
        by_cases hee : e' = e
        · subst hee
          rw [if_pos rfl] at hk
          obtain ⟨c, hc, _⟩ := hz rfl
          obtain ⟨⟨s1, s2⟩, hhd⟩ := sub_header h hK hv hc
          obtain ⟨l, hgh, e1, e2, hk, hrun⟩ := sliceBounds_ok (P := P) hl hh hk
          rcases hhd with ⟨rfl, hval, rfl, rfl, hρ⟩ | ⟨b, off, cap, hval, h2, h3, h4, hρ⟩
          · simp only [Nat.le_zero] at e2
            subst e2
            have : l = 0 := by omega
            subst this
            refine fin u1 rfl (by rw [hval]; exact run_slice_of u1 u4 (hrun true 0 w (Nat.le_refl _))) hk ?_
            refine ⟨_, rfl, ⟨by rw [hlv]; exact s1, by rw [hlv]; exact s2⟩, ?_⟩
            rw [at_key (by rfl), hρ]
            simp [SubR]
          · refine fin u1 rfl (by rw [hval]; exact run_slice_of u1 u4 (hrun true cap w h2)) hk ?_
            refine ⟨_, rfl, ⟨by rw [hlv]; exact s1, by rw [hlv]; exact s2⟩, ?_⟩
            rw [at_key (by rfl), hρ]
            by_cases hc : cap = l
            · rw [if_pos hc]; exact ⟨off, cap - l, rfl, by omega, by omega, .inl (by omega)⟩
            · rw [if_neg hc]
              refine ⟨off + l * j.size, cap - l, by simp [addr_add], by omega, by omega, ?_⟩
              rcases h4 with h4 | h4
              · exact .inl (by omega)
              · exact .inr (by rw [u5, h4, Nat.add_mul])
        · rw [if_neg hee] at hk; exact hk.elim
      · exact hk.elim
    · rw [if_neg ht] at hk; exact hk.elim
  · exact hk.elim

end Go.Proofs.Ytlndfmmigndgeaa.Ev

/- Lengths, the greater and the lesser, fields, parts of results. -/
namespace Go.Proofs.Ytlndfmmigndgeaa.Ev
open Go
set_option linter.unusedSimpArgs false
set_option linter.unusedVariables false

theorem Sh.size_one {s : Sh} (h : s.isAgg = false) : s.size = 1 := by cases s <;> simp [Sh.isAgg, Sh.size] at h ⊢

theorem AV.size_one {u : AV} (hg : u.isAgg = false) : u.size = 1 := by
  cases u with
  | d s x => exact Sh.size_one hg
  | pair a b => simp [AV.isAgg] at hg
  | unit => simp [AV.isAgg] at hg
  | _ => rfl

theorem lenAV_ok {C : Orc} {w0 : Base} {w : World} {st : St} {a : Act} {ts : List (Array Value)} {R : Cx} (h : Rel w0 st (a.tmps :: ts) R w) {v : AV} {K : Key} {val : Value} (hK : K.lv = st.length - 1) (hv : SV R v K val) {k : AV → St → Prop}
    (hw : (lenAV v).wp C st k) : ∃ n : Nat, k (.d (.int .i64) (n : Int)) st ∧ ((∃ s, v = .d .str s ∧ val = .string s ∧ n = s.size) ∨ ((∀ s, v ≠ .d .str s) ∧ ∃ b c, val = .slice b n c)) := by
  unfold lenAV at hw
  split at hw
  · rename_i s
    exact ⟨_, hw, .inl ⟨s, rfl, SV_str hv, rfl⟩⟩
  · rename_i e l
    refine ⟨_, hw, .inr ⟨(fun s e => by simp at e), ?_⟩⟩
    have hd : DR R.Z R.h (.sl e) l [val] := hv
    simp only [DR] at hd
    rcases hd with ⟨rfl, ad, cp, hval⟩ | ⟨b, off, cap, arr, el, fr, hval, _⟩
    · simp only [List.cons.injEq, and_true] at hval; exact ⟨_, _, hval⟩
    · simp only [List.cons.injEq, and_true] at hval; exact ⟨_, _, hval⟩
  · rename_i e o l
    refine ⟨_, hw, .inr ⟨(fun s e => by simp at e), ?_⟩⟩
    have hd : OR R (.sl e) (.ow o) K l [val] := hv
    simp only [OR] at hd
    rcases hd with ⟨_, rfl, hval⟩ | ⟨b, cap, arr, el, _, hval, _⟩
    · simp only [List.cons.injEq, and_true] at hval; exact ⟨_, _, hval⟩
    · simp only [List.cons.injEq, and_true] at hval; exact ⟨_, _, hval⟩
  · rename_i q e
    rw [M.wp_bind] at hw
    replace hw := getPl_ok h hw
    obtain ⟨z, hk, hqk, hz⟩ := hw
    split at hk
    · rename_i e' ow l
      obtain ⟨c, hc, _⟩ := hz rfl
      obtain ⟨u, e1, _, hvw⟩ : VR R (.vw q e) K [val] := hv
      simp only [List.cons.injEq, and_true] at e1
      subst e1
      rw [at_key hK] at hvw
      simp only [VR, OR] at hc
      refine ⟨_, hk, .inr ⟨(fun s e => by simp at e), ?_⟩⟩
      rcases hc with ⟨h1, h2, _⟩ | ⟨b, cap, arr, el, h1, _⟩
      · rw [h1] at hvw; subst h2; exact ⟨_, _, hvw⟩
      · rw [h1] at hvw; obtain ⟨cap', _, _, e1, _⟩ := hvw; exact ⟨_, _, e1⟩
    · exact hk.elim
  · rename_i q e lo n
    rw [M.wp_bind] at hw
    replace hw := getPl_ok h hw
    obtain ⟨z, hk, hqk, hz⟩ := hw
    split at hk
    · rename_i e' ow l
      obtain ⟨c, hc, _⟩ := hz rfl
      obtain ⟨_, hh⟩ := sub_header h hK hv hc
      refine ⟨_, hk, .inr ⟨(fun s e => by simp at e), ?_⟩⟩
      rcases hh with ⟨_, e1, _, e2, _⟩ | ⟨b, off, cap, e1, _⟩
      · rw [e2]; exact ⟨_, _, e1⟩
      · exact ⟨_, _, e1⟩
    · exact hk.elim
  · refine ⟨0, hw, .inr ⟨(fun s e => by simp at e), ?_⟩⟩
    have hd : [val] = [Value.slice none 0 0] := hv
    simp only [List.cons.injEq, and_true] at hd
    exact ⟨_, _, hd⟩
  · exact hw.elim

theorem OpOk.len {P : Program} {E : Env} (hE : EnvOk P E) {C : Orc} {o : Oper} {c : Call} (ho : o.op = .call c) (hc : c.callee = .builtin .len) : OpOk P E C o := by
  intro w0 st a ts R w k next Q h hw hn
  simp only [evOp, ho, callAV, hc] at hw
  split at hw
  · rename_i x t hargs htys
    rw [M.wp_bind] at hw
    obtain ⟨v, hk, ⟨K, hK, hv⟩, hq1, hq2⟩ := rawOp_ok h hw
    by_cases hl : lenTy (E.sh t) v = true
    · rw [if_pos hl, M.wp_bind] at hk
      replace hk := lenAV_ok h hK hv hk
      obtain ⟨n, hk, hcase⟩ := hk
      have hrun : (Builtin.len_ #[t] o.type #[a.eval x]).run P w = .ok (.int .i64 (n : Int)) w := by
        unfold lenTy at hl
        rcases hcase with ⟨s, rfl, e2, e3⟩ | ⟨hne, b, cc, e2⟩
        · split at hl
          · rename_i hs _
            have hu := (tyB_scalar (hE.sh _ _ hs)).2.1 rfl
            simp [Builtin.len_, run_underlying hu, e2, e3, goInt]
          · simp at hl
          · rename_i hs; exact absurd rfl (hs s)
          · simp at hl
        · split at hl
          · exact absurd rfl (hne _)
          · simp at hl
          · rename_i e hs _
            obtain ⟨et, j, u1, _⟩ := sl_info hE hs
            simp [Builtin.len_, run_underlying u1, e2, goInt]
          · simp at hl
      refine OpOk.value (j := 0) (v := .int .i64 (n : Int)) ?_ h hk rfl hn
      simp only [execOp, ho, resolve, hc, hargs, htys, invoke, builtin]
      simp [hrun]
    · rw [if_neg hl] at hk; exact hk.elim
  · exact hw.elim

theorem OpOk.max {P : Program} {E : Env} {C : Orc} {o : Oper} {c : Call} (ho : o.op = .call c) (hc : c.callee = .builtin .max) : OpOk P E C o := by
  intro w0 st a ts R w k next Q h hw hn
  simp only [evOp, ho, callAV, hc] at hw
  split at hw
  · rename_i x y hargs
    rw [M.wp_bind] at hw
    obtain ⟨v, hk, ⟨K, hK, hv⟩, hq1, hq2⟩ := rawOp_ok h hw
    rw [M.wp_bind] at hk
    replace hk := rawOp_ok h hk
    obtain ⟨u, hk, ⟨K', hK', hu⟩, hq3, hq4⟩ := hk
    split at hk
    · rename_i kk m kk' n
      have e1 := SV_int hv
      have e2 := SV_int hu
      by_cases hkk : kk = kk'
      · rw [if_pos hkk] at hk
        refine OpOk.value (j := 0) (v := .int kk (if n > m then n else m)) ?_ h hk rfl hn
        simp only [execOp, ho, resolve, hc, hargs, invoke, builtin]
        simp [Builtin.max_, e1, e2, Builtin.max2]
      · rw [if_neg hkk] at hk; exact hk.elim
    · exact hk.elim
  · exact hw.elim

theorem OpOk.min {P : Program} {E : Env} {C : Orc} {o : Oper} {c : Call} (ho : o.op = .call c) (hc : c.callee = .builtin .min) : OpOk P E C o := by
  intro w0 st a ts R w k next Q h hw hn
  simp only [evOp, ho, callAV, hc] at hw
  split at hw
  · rename_i x y hargs
    rw [M.wp_bind] at hw
    obtain ⟨v, hk, ⟨K, hK, hv⟩, hq1, hq2⟩ := rawOp_ok h hw
    rw [M.wp_bind] at hk
    replace hk := rawOp_ok h hk
    obtain ⟨u, hk, ⟨K', hK', hu⟩, hq3, hq4⟩ := hk
    split at hk
    · rename_i kk m kk' n
      have e1 := SV_int hv
      have e2 := SV_int hu
      by_cases hkk : kk = kk'
      · rw [if_pos hkk] at hk
        refine OpOk.value (j := 0) (v := .int kk (if n < m then n else m)) ?_ h hk rfl hn
        simp only [execOp, ho, resolve, hc, hargs, invoke, builtin]
        simp [Builtin.min_, e1, e2, Builtin.min2]
      · rw [if_neg hkk] at hk; exact hk.elim
    · exact hk.elim
  · exact hw.elim

/-! ### Fields -/

/-- A flat part of a value in its cells. -/
theorem part_flat {C : Orc} : ∀ (p : List Stp) {v : AV} {st : St} {k : AV → St → Prop}, flat p = true → (v.part p).wp C st k →
    ∃ x, k x st ∧ (v.hasOwn = false → x.hasOwn = false) ∧ ∀ {R K cs}, VR R v K cs → ∃ pre c post, cs = pre ++ c ++ post ∧ pre.length = pathOff p ∧ VR R x (K.ext p) c := by
  intro p
  induction p with
  | nil => intro v st k _ h; exact ⟨v, h, id, fun {R K cs} hd => ⟨[], cs, [], by simp, rfl, hd⟩⟩
  | cons i p ih =>
    intro v st k hf h
    simp only [flat, List.all_cons, Bool.and_eq_true] at hf
    simp only [AV.part, M.wp_bind] at h
    have hext : ∀ K : Key, (K.child i).ext p = K.ext (i :: p) := by intro K; simp [Key.ext, Key.child]
    cases v with
    | pair x y =>
      cases i with
      | ix i z => simp [Stp.isIx] at hf
      | l =>
        obtain ⟨u, hk, ho, hd⟩ := ih hf.2 (v := x) h
        refine ⟨u, hk, (fun e => ho (by simp only [AV.hasOwn, Bool.or_eq_false_iff] at e; exact e.1)), fun {R K cs} hx => ?_⟩
        obtain ⟨c1, c2, rfl, h1, h2⟩ := hx
        obtain ⟨pre, c, post, rfl, e, hc⟩ := hd h1
        exact ⟨pre, c, post ++ c2, by simp, e, by rw [← hext]; exact hc⟩
      | r n =>
        simp only [AV.step] at h
        split at h
        · rename_i hn
          obtain ⟨u, hk, ho, hd⟩ := ih hf.2 (v := y) h
          refine ⟨u, hk, (fun e => ho (by simp only [AV.hasOwn, Bool.or_eq_false_iff] at e; exact e.2)), fun {R K cs} hx => ?_⟩
          obtain ⟨c1, c2, rfl, h1, h2⟩ := hx
          rw [hn] at h2
          obtain ⟨pre, c, post, rfl, e, hc⟩ := hd h2
          exact ⟨c1 ++ pre, c, post, by simp, by simp only [List.length_append, VR.length h1, e, hn, pathOff], by rw [← hext]; exact hc⟩
        · exact h.elim
    | d s x =>
      cases s with
      | pair a b =>
        cases i with
        | ix i z => simp [Stp.isIx] at hf
        | l =>
          obtain ⟨u, hk, ho, hd⟩ := ih hf.2 (v := .d a x.1) h
          refine ⟨u, hk, (fun e => ho rfl), fun {R K cs} hx => ?_⟩
          obtain ⟨c1, c2, rfl, h1, h2⟩ := hx
          obtain ⟨pre, c, post, rfl, e, hc⟩ := hd (R := R) (K := K.child .l) h1
          exact ⟨pre, c, post ++ c2, by simp, e, by rw [← hext]; exact hc⟩
        | r n =>
          simp only [AV.step] at h
          split at h
          · rename_i hn
            obtain ⟨u, hk, ho, hd⟩ := ih hf.2 (v := .d b x.2) h
            refine ⟨u, hk, (fun e => ho rfl), fun {R K cs} hx => ?_⟩
            obtain ⟨c1, c2, rfl, h1, h2⟩ := hx
            obtain ⟨pre, c, post, rfl, e, hc⟩ := hd (R := R) (K := K.child (.r n)) h2
            exact ⟨c1 ++ pre, c, post, by simp, by simp only [List.length_append, DR.length h1, e, hn, pathOff], by rw [← hext]; exact hc⟩
          · exact h.elim
      | _ => cases i <;> exact h.elim
    | own e o l =>
      cases i with
      | ix i z => simp [Stp.isIx] at hf
      | l => exact h.elim
      | r n => exact h.elim
    | hol e o l j b0 =>
      cases i with
      | ix i z => simp [Stp.isIx] at hf
      | l => exact h.elim
      | r n => exact h.elim
    | _ => cases i <;> exact h.elim

theorem fldPath_sh {P : Program} {E : Env} : ∀ {s : Sh} {fs : List Field} {off n : Nat} {p : List Stp} {a : Sh}, fldB P E fs s off = true → fldPath s n = some p → fldSh s n = some a →
    ∃ (f : Field), fs[n]? = some f ∧ f.offset = off + pathOff p ∧ E.sh f.type = some a := by
  intro s
  induction s with
  | pair a b iha ihb =>
    intro fs off n p c h hp hc
    cases fs with
    | nil => simp [fldB] at h
    | cons f fs =>
      simp only [fldB, Bool.and_eq_true, beq_iff_eq, bne_iff_ne, ne_eq] at h
      obtain ⟨⟨⟨h1, h2⟩, h3⟩, h4⟩ := h
      cases n with
      | zero => simp only [fldPath, fldSh, Option.some.injEq] at hp hc; subst hp hc; exact ⟨f, rfl, by simp [pathOff, h1], h2⟩
      | succ n =>
        simp only [fldPath, Option.map_eq_some_iff] at hp
        obtain ⟨q, hq, rfl⟩ := hp
        obtain ⟨g, e1, e2, e3⟩ := ihb h4 hq hc
        exact ⟨g, by simpa using e1, by rw [e2]; simp only [pathOff]; omega, e3⟩
  | _ => intro fs off n p c h hp; simp [fldPath] at hp

end Go.Proofs.Ytlndfmmigndgeaa.Ev
