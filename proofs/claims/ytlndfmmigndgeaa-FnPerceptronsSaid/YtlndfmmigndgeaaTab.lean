/- PRINTED BY gen.py (own program): the tables of this seat: shapes of types, modes of calls. -/
import Derived.Test.YtlndfmmigndgeaaChecked
import Derived.Test.YtlndfmmigndgeaaEv3
import Derived.KernelRfl
namespace Go.Proofs.Ytlndfmmigndgeaa.Ev
open Go
def shTab : List (Option Sh) := [none, none, some (.int .i64), some (.int .i64), some (.bool), some (.int .u8), some (.int .u8), some (.pair (.int .i64) (.pair (.int .i64) (.pair (.bool) (.pair (.int .u8) (.unit))))), some (.pair (.int .i64) (.pair (.int .i64) (.pair (.bool) (.pair (.int .u8) (.unit))))), some (.str), some (.str), some (.str), some (.int .u64), some (.pair (.str) (.pair (.int .u64) (.unit))), some (.pair (.str) (.pair (.int .u64) (.unit))), none, none, none, none, none, none, some (.int .i32), some (.sl (.int .u8)), none, some (.sl (.sl (.int .i64))), some (.sl (.int .i64)), some (.pair (.sl (.sl (.int .i64))) (.pair (.sl (.int .i64)) (.unit))), some (.pair (.sl (.sl (.int .i64))) (.pair (.sl (.int .i64)) (.unit))), none, none, none, none, none, none, none, some (.sl (.sl (.pair (.sl (.int .i64)) (.pair (.int .i64) (.unit))))), some (.pair (.int .i64) (.pair (.sl (.sl (.pair (.sl (.int .i64)) (.pair (.int .i64) (.unit))))) (.unit))), some (.pair (.int .i64) (.pair (.sl (.sl (.pair (.sl (.int .i64)) (.pair (.int .i64) (.unit))))) (.unit))), none, none, none, none, none, none, none, none, none, none, none, none, none, none, some (.pair (.sl (.sl (.int .i64))) (.pair (.sl (.int .i64)) (.unit))), some (.pair (.sl (.sl (.int .i64))) (.pair (.sl (.int .i64)) (.unit))), none, none, some (.pair (.sl (.int .i64)) (.pair (.int .i64) (.unit))), some (.pair (.sl (.int .i64)) (.pair (.int .i64) (.unit))), none, none, none, none, none, none, none, none, none, none, none, none, none, none, none, some (.pair (.pair (.sl (.sl (.int .i64))) (.pair (.sl (.int .i64)) (.unit))) (.pair (.pair (.sl (.int .i64)) (.pair (.int .i64) (.unit))) (.pair (.int .i64) (.pair (.int .i64) (.unit))))), some (.pair (.pair (.sl (.sl (.int .i64))) (.pair (.sl (.int .i64)) (.unit))) (.pair (.pair (.sl (.int .i64)) (.pair (.int .i64) (.unit))) (.pair (.int .i64) (.pair (.int .i64) (.unit))))), none, none, none, none, none, none, none, none, none, none, none, none, none, some (.sl (.pair (.sl (.int .i64)) (.pair (.int .i64) (.unit)))), none, none, none, none, none, none, none, none, none, none, none, none, none, none, none, none, some (.int .u64), some (.pair (.sl (.int .u8)) (.pair (.int .i64) (.pair (.int .u64) (.unit)))), some (.pair (.sl (.int .u8)) (.pair (.int .i64) (.pair (.int .u64) (.unit)))), none, none, none, none, none, none, none, none, none, none, none, none, none, none, none, none, none, none, some (.pair (.sl (.pair (.sl (.int .i64)) (.pair (.int .i64) (.unit)))) (.pair (.sl (.int .i64)) (.pair (.sl (.int .i64)) (.unit)))), some (.pair (.sl (.pair (.sl (.int .i64)) (.pair (.int .i64) (.unit)))) (.pair (.sl (.int .i64)) (.pair (.sl (.int .i64)) (.unit)))), none, none, some (.pair (.sl (.pair (.sl (.int .i64)) (.pair (.int .i64) (.unit)))) (.pair (.sl (.int .i64)) (.pair (.sl (.int .i64)) (.unit)))), some (.pair (.sl (.pair (.sl (.int .i64)) (.pair (.int .i64) (.unit)))) (.pair (.sl (.int .i64)) (.pair (.sl (.int .i64)) (.unit)))), none, none, none, none, none, none, none, none, none, none, none, none, some (.sl (.sl (.sl (.int .i64)))), some (.sl (.sl (.sl (.int .i64)))), none, none, none, none, none, none, none, none, none, none, none, none, none, none, none, none, none, none, none, none, none, none, none, none, none, some (.int .u64), none, none, none, some (.pair (.int .i64) (.pair (.int .i64) (.pair (.int .i64) (.pair (.sl (.int .i64)) (.unit))))), some (.pair (.int .i64) (.pair (.int .i64) (.pair (.int .i64) (.pair (.sl (.int .i64)) (.unit))))), none, none, none, none, none, none, none, none, none, none, none, none, none, none, none, none, none, none, none, none, none, none, none, none, none, none, some (.int .u32), some (.int .u8), some (.int .u8), none, none, some (.int .i32), some (.int .i32), none, none, none, none]
def byTab : List Nat := [0, 0, 0, 0, 0, 0, 0, 0, 0, 0, 0, 0, 0, 0, 0, 0, 0, 0, 0, 0, 0, 0, 1, 0, 24, 8, 0, 0, 0, 0, 0, 0, 0, 0, 0, 24, 0, 0, 0, 0, 0, 0, 0, 0, 0, 0, 0, 0, 0, 0, 0, 0, 0, 0, 0, 0, 0, 0, 0, 0, 0, 0, 0, 0, 0, 0, 0, 0, 0, 0, 0, 0, 0, 0, 0, 0, 0, 0, 0, 0, 0, 0, 0, 0, 0, 0, 0, 0, 32, 0, 0, 0, 0, 0, 0, 0, 0, 0, 0, 0, 0, 0, 0, 0, 0, 0, 0, 0, 0, 0, 0, 0, 0, 0, 0, 0, 0, 0, 0, 0, 0, 0, 0, 0, 0, 0, 0, 0, 0, 0, 0, 0, 0, 0, 0, 0, 0, 0, 0, 0, 0, 0, 0, 0, 24, 24, 0, 0, 0, 0, 0, 0, 0, 0, 0, 0, 0, 0, 0, 0, 0, 0, 0, 0, 0, 0, 0, 0, 0, 0, 0, 0, 0, 0, 0, 0, 0, 0, 0, 0, 0, 0, 0, 0, 0, 0, 0, 0, 0, 0, 0, 0, 0, 0, 0, 0, 0, 0, 0, 0, 0, 0, 0, 0, 0, 0, 0, 0, 0, 0, 0, 0, 0, 0]
def oneTab : List Bool := [false, true, false, false, false, false, false, false, false, false, false, false, false, false, false, true, true, true, false, false, false, false, false, true, false, false, false, false, true, false, true, true, true, false, true, false, false, false, false, true, true, false, true, false, true, true, false, true, true, true, true, true, false, false, false, true, false, false, false, true, true, false, true, false, true, true, true, true, true, false, true, false, true, false, false, true, true, true, true, true, true, true, true, true, false, true, true, true, false, false, true, false, true, true, true, true, true, true, true, true, true, true, true, true, true, false, false, false, true, true, true, true, true, true, true, true, true, true, true, true, false, true, true, true, true, true, false, false, false, true, false, false, false, true, true, true, true, true, true, true, true, true, true, true, false, false, true, true, true, true, true, false, true, true, true, true, true, true, true, true, true, true, true, true, true, true, false, true, false, true, true, false, false, true, true, false, false, true, true, false, true, true, true, true, false, true, true, true, true, true, true, true, true, true, true, true, true, true, false, false, false, false, false, false, false, false, true, true, false, false, false, false, true, false]
def inlTab : List Bool := [false, false, false, false, false, false, false, false, false, false, false, false, false, false, false, false, false, false, false, false, false, false, false, false, false, false, false, false, false, false, false, false, false, false, false, false, false, false, false, false, false, false, false, false, false, false, false, false, false, false, false, false, false, false, false, false, false, false, false, false, false, false, false, false, false, false, false, false, false, false, false, false, false, false, false, false, false, false, false, false, false, false, false, false, false, false, false, false, false, false, false, false, false, false, false, false, false, false, false, false, false, false, false, false, false, false, false, true, true, false, false, false, false, false, false, false, true, false, true, false, false, false, false, false, false, true, true, true, false, false, false, false, false, true, true, false, false, false, false, false, false, false, false, false, false, false, false, false, false, false, false, false, false, false, false, false, false, false, false, false, false, false, false, false, true, false, true, true, false, false, false, false, false, false, false, true, false, false, false, false, false, false, false, false, false, true, true, false, false, false, true, false, false, false, true, false, false, true, false, false, false, false, false, false, false, false, true, false, false, false, false, false, false, false, false, false, false, false, false, false, false, false, false, false, false, false, false, false, false, false, false, false, false, false, false, false, false, false, false, false, false, false, false, false, true, false]
def tupTab : List Bool := [true, true, true, false, false, false, false, false, false, false, false, true, true, false, false, true, true, true, true, true, true, true, true, true, true, false, true, true, true, true, true, true, false, true, true, true, true, true, false, false, false, false, false, true, true, true, true, true, true, true, true, true, true, true, true, true, false, false, true, true, true, false, true, true, true, true, false, true, true, false, true, true, true, true, true, true, false, true, true, true, true, true, true, true, true, true, true, false, false, true, true, false, false, false, false, false, false, false, false, false, false, false, false, false, false, false, false, false, false, false, false, false, false, false, false, false, false, false, false, false, false, false, false, false, false, false, false, false, true, true, false, false, false, false, false, false, false, false, false, false, false, false, true, false, false, false, false, false, false, false, false, false, true, true, false, true, true, true, false, false, false, false, false, false, false, true, false, false, false, true, false, false, false, false, false, false, false, false, false, false, false, false, false, false, false, false, false, false, false, true, false, false, false, false, false, false, true, true, false, true, false, true, false, false, true, true, false, true, true, true, false, true, true, false, false, false, false, false, true, false, false, false, false, true, true, false, false, true, true, true, true, true, true, true, true, true, true, true, true, true, true, true, true, true, true, true]
def arrTab : List (Option (Nat × Sh)) := [none, none, none, none, none, none, none, none, none, none, none, none, none, none, none, none, none, none, none, none, none, none, none, none, none, none, none, none, none, none, none, none, none, none, none, none, none, none, none, none, none, none, none, none, none, none, none, none, none, none, none, none, none, none, none, none, none, none, none, none, none, none, none, none, none, none, none, none, none, none, none, none, none, none, none, none, none, none, none, none, none, none, none, none, none, none, none, none, none, none, none, none, none, none, none, none, none, none, none, none, none, none, none, none, none, none, none, none, none, none, none, none, none, none, none, none, none, none, none, none, some (2, .sl (.sl (.pair (.sl (.int .i64)) (.pair (.int .i64) (.unit))))), none, none, none, none, none, none, none, none, none, none, none, none, none, none, none, none, none, none, none, none, none, none, none, none, none, none, none, none, none, none, none, none, none, none, none, none, none, none, none, none, none, none, none, none, none, none, none, none, none, none, none, none, none, none, none, none, none, none, none, none, none, none, none, none, none, none, none, none, none, none, none, none, none, none, none, none, none, none, none, none, none, none, none, none, none, none, none, none, none, none, none, none, none]
def env (nest : Bool) : Env := ⟨fun t => nth shTab t none, fun t => nth byTab t 0, nest, fun f => nth inlTab f false, fun f => nth tupTab f false, fun t => nth oneTab t false, fun t => nth arrTab t none⟩

theorem arr_tab : ((List.range 214).all fun t => match nth arrTab t none with | none => true | some x => arrB Try.prog (env true) t x.1 x.2) = true := by kernel_rfl

theorem tabs_ok : ∀ n, n ≤ 214 → ((List.range n).all fun t => (match nth shTab t none with | none => true | some s => tyB Try.prog (env true) t s) && (!nth oneTab t false || oneB Try.prog t)) = true := by
  have : ((List.range 214).all fun t => (match nth shTab t none with | none => true | some s => tyB Try.prog (env true) t s) && (!nth oneTab t false || oneB Try.prog t)) = true := by kernel_rfl
  intro n hn
  rw [List.all_eq_true] at this ⊢
  intro t ht
  exact this t (by simp at ht ⊢; omega)
theorem fldB_nest (P : Program) (b c : Bool) : ∀ (fs : List Field) (s : Sh) (off : Nat), fldB P (env b) fs s off = fldB P (env c) fs s off := by
  intro fs
  induction fs with
  | nil => intro s off; cases s <;> rfl
  | cons f fs ih => intro s off; cases s <;> first | rfl | (simp only [fldB]; rw [ih]; rfl)
theorem tyB_nest (P : Program) (b c : Bool) (t : TypeId) (s : Sh) : tyB P (env b) t s = tyB P (env c) t s := by
  unfold tyB
  simp only [fldB_nest P b c]
  rfl
theorem arrB_nest (P : Program) (b c : Bool) (t : TypeId) (n : Nat) (e : Sh) : arrB P (env b) t n e = arrB P (env c) t n e := by
  unfold arrB
  rfl
theorem nth_none {α : Type} : ∀ (l : List α) (n : Nat) (d : α), l.length ≤ n → nth l n d = d := by
  intro l
  induction l with
  | nil => intro n d _; cases n <;> rfl
  | cons a l ih => intro n d h; cases n with | zero => simp at h | succ n => exact ih n d (by simpa using h)
theorem envOk (b : Bool) : EnvOk Try.prog (env b) := by
  have key := tabs_ok 214 (Nat.le_refl _)
  rw [List.all_eq_true] at key
  constructor
  · intro t s h
    have h : nth shTab t none = some s := h
    by_cases ht : t < 214
    · have := key t (by simpa using ht)
      rw [h] at this
      simp only [Bool.and_eq_true] at this
      rw [tyB_nest _ b true]; exact this.1
    · rw [nth_none shTab t none (by rw [show shTab.length = 214 from rfl]; exact Nat.le_of_not_lt ht)] at h
      cases h
  · intro t h
    have h : nth oneTab t false = true := h
    by_cases ht : t < 214
    · have := key t (by simpa using ht)
      rw [h] at this
      simp only [Bool.and_eq_true] at this
      simpa using this.2
    · rw [nth_none oneTab t false (by rw [show oneTab.length = 214 from rfl]; exact Nat.le_of_not_lt ht)] at h
      cases h
  · intro t n e h
    have h : nth arrTab t none = some (n, e) := h
    have key := arr_tab
    rw [List.all_eq_true] at key
    by_cases ht : t < 214
    · have := key t (by simpa using ht)
      rw [h] at this
      rw [arrB_nest _ b true]; exact this
    · rw [nth_none arrTab t none (by rw [show arrTab.length = 214 from rfl]; exact Nat.le_of_not_lt ht)] at h
      cases h

theorem envB_tab : ((List.range 214).all fun t => match nth shTab t none with | some (.sl e) => Nat.ble (bytesSh e) (nth byTab t 0) | _ => true) = true := by kernel_rfl
theorem envB (b : Bool) : EnvB (env b) := by
  intro t e h
  have h : nth shTab t none = some (.sl e) := h
  have key := envB_tab
  rw [List.all_eq_true] at key
  by_cases ht : t < 214
  · have := key t (by simpa using ht)
    rw [h] at this
    exact Nat.le_of_ble_eq_true this
  · rw [nth_none shTab t none (by rw [show shTab.length = 214 from rfl]; exact Nat.le_of_not_lt ht)] at h
    cases h
def orc : Orc := ⟨fun f xs r => PureC Try.prog ((env true).tup f) f xs r, fun f vs st r st' => InlC Try.prog ((env true).tup f) f vs st r st'⟩
theorem orcOk (b : Bool) : OrcOk Try.prog (env b) orc := ⟨fun _ _ _ h => h, fun _ _ _ _ _ h => h⟩
end Go.Proofs.Ytlndfmmigndgeaa.Ev
