/- Library functions on strings, by the contracts of the kit's shelf. -/
import Derived.Test.YthgjpoeneihmnaaDoorFnSA
import Derived.Test.YthgjpoeneihmnaaDoorShelf
namespace Go.Proofs.YthgjpoeneihmnaaDoor.Ev
open Go
set_option linter.unusedVariables false
set_option linter.unusedSimpArgs false
set_option maxRecDepth 100000
set_option exponentiation.threshold 100000

theorem below_grow (w : World) (os : Array Obj) (k : Nat) : RowKit.Below w.heap.size w (Go.Sort.grow (w.drewN k) os) := by
  have e : (w.drewN k).heap = w.heap := rfl
  refine ⟨rfl, rfl, rfl, ?_, ?_⟩
  · show w.heap.size ≤ ((w.drewN k).heap ++ os).size
    rw [e]; simp
  · intro j hj
    show ((w.drewN k).heap ++ os)[j]? = _
    rw [e, Array.getElem?_append_left hj]
theorem below_drewN (w : World) (k : Nat) : RowKit.Below w.heap.size w (w.drewN k) := ⟨rfl, rfl, rfl, Nat.le_refl _, fun _ _ => rfl⟩

theorem strings_Contains_ok (l : Txt) (c : UInt8) : orc.pc n_strings_Contains [.d .str (mk l), .d .str (mk [c])] ⟨.bool, .fz, decide (c ∈ l)⟩ := by
  refine pureC_calls (t := false) x_strings_Contains rfl (res := .bool (decide (c ∈ l))) (fun R => rfl) (fun w hg => ?_)
  refine Calls.mono' (Tryd.strings_Contains_one (mk l) c w) ?_
  rintro e w' ⟨rfl, rfl⟩
  exact ⟨by rw [list_mk, contains_one], RowKit.Below.refl _ _⟩

abbrev shSSB : Sh := .pair .str (.pair .str (.pair .bool .unit))
theorem strings_Cut_ok (l : Txt) (c : UInt8) (hl : l.length ≤ 4294967280) : orc.pc n_strings_Cut [.d .str (mk l), .d .str (mk [c])] ⟨shSSB, .fz, (mk (bef c l), mk (aft c l), decide (c ∈ l), ())⟩ := by
  refine pureC_calls (t := true) x_strings_Cut rfl (res := .tuple #[.string (mk (bef c l)), .string (mk (aft c l)), .bool (decide (c ∈ l))]) (fun R => ?_) (fun w hg => ?_)
  · exact ⟨_, rfl, _, _, rfl, rfl, _, _, rfl, rfl, _, _, rfl, rfl, rfl⟩
  · obtain ⟨m, hm⟩ := hg.ints 0 (by simp [gInts])
    refine Calls.mono' (Tryd.strings_Cut (mk l) (mk [c]) m w (by rw [mk_size]; omega) hm) ?_
    rintro e w' ⟨rfl, n, rfl⟩
    refine ⟨?_, below_drewN w n⟩
    rw [list_mk, list_mk, cut_bef]; rfl

theorem tab_ok {w : World} (hg : GOk w) : Lib.TabIs Tryd.prog w "internal/strconv.uint64pow10" .u64 Lib.pow10Tab := by
  obtain ⟨el, fr, h⟩ := hg.tabs (1, (List.range 20).map fun i => Value.int .u64 ((10 : Int) ^ i)) (by simp [gTabs])
  have hn : Tryd.prog.globalNamed "internal/strconv.uint64pow10" = some 1 := by kernel_rfl
  unfold Lib.TabIs World.var?
  rw [hn]
  simp only [Option.bind_some]
  rw [h]
  simp [Lib.pow10Tab]

theorem strconv_Itoa_ok (n : Nat) (hn : n < 9223372036854775808) : orc.pc n_strconv_Itoa [.d tI (n : Int)] ⟨.str, .fz, mk (Lib.decDigits n)⟩ := by
  refine pureC_calls (t := false) x_strconv_Itoa rfl (res := .string (mk (Lib.decDigits n))) (fun R => rfl) (fun w hg => ?_)
  refine Calls.mono' (Tryd.strconv_Itoa (n : Int) (by omega) (by omega) w (tab_ok hg)) ?_
  rintro e w' ⟨rfl, k, os, rfl⟩
  refine ⟨?_, below_grow w os k⟩
  have : Lib.itoa (n : Int) = Lib.decDigits n := by unfold Lib.itoa; rw [if_neg (by omega)]; simp
  rw [this]; rfl

theorem strings_ContainsAny_ok (l cs : Txt) (hl : l.length ≤ 4294967280) (hc : cs.length ≤ 4294967280) (h1 : ∀ b ∈ l, b.toNat < 128) (h2 : ∀ b ∈ cs, b.toNat < 128) :
    orc.pc n_strings_ContainsAny [.d .str (mk l), .d .str (mk cs)] ⟨.bool, .fz, l.any fun b => cs.contains b⟩ := by
  refine pureC_calls (t := false) x_strings_ContainsAny rfl (res := .bool (l.any fun b => cs.contains b)) (fun R => rfl) (fun w hg => ?_)
  refine Calls.mono' (Tryd.strings_ContainsAny_laid (mk l) (mk cs) w (by rw [mk_size]; omega) (by rw [mk_size]; omega) (fun j b hb => h1 b (List.mem_of_getElem? hb)) (fun j b hb => h2 b (List.mem_of_getElem? hb))) ?_
  rintro e w' ⟨rfl, hb⟩
  exact ⟨by rw [list_mk, list_mk, containsAny_iff], hb⟩

end Go.Proofs.YthgjpoeneihmnaaDoor.Ev
