/- Library functions on strings, by the contracts of the kit's shelf. -/
import Derived.Test.YthgjpoeneihmnaaFnSA
import Derived.Test.YthgjpoeneihmnaaShelf
namespace Go.Proofs.Ythgjpoeneihmnaa.Ev
open Go
set_option linter.unusedVariables false
set_option linter.unusedSimpArgs false
set_option maxRecDepth 100000
set_option exponentiation.threshold 100000

theorem below_drewN (w : World) (k : Nat) : RowKit.Below w.heap.size w (w.drewN k) := ⟨rfl, rfl, rfl, Nat.le_refl _, fun _ _ => rfl⟩

abbrev shSSB : Sh := .pair .str (.pair .str (.pair .bool .unit))
theorem strings_ContainsAny_ok (l cs : Txt) (hl : l.length ≤ 4294967280) (hc : cs.length ≤ 4294967280) (h1 : ∀ b ∈ l, b.toNat < 128) (h2 : ∀ b ∈ cs, b.toNat < 128) :
    orc.pc n_strings_ContainsAny [.d .str (mk l), .d .str (mk cs)] ⟨.bool, .fz, l.any fun b => cs.contains b⟩ := by
  refine pureC_calls (t := false) x_strings_ContainsAny rfl (res := .bool (l.any fun b => cs.contains b)) (fun R => rfl) (fun w hg => ?_)
  refine Calls.mono' (Try.strings_ContainsAny_laid (mk l) (mk cs) w (by rw [mk_size]; omega) (by rw [mk_size]; omega) (fun j b hb => h1 b (List.mem_of_getElem? hb)) (fun j b hb => h2 b (List.mem_of_getElem? hb))) ?_
  rintro e w' ⟨rfl, hb⟩
  exact ⟨by rw [list_mk, list_mk, containsAny_iff], hb⟩

end Go.Proofs.Ythgjpoeneihmnaa.Ev
