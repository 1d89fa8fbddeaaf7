/- The contracts of library functions at this dump, as the kit's own tools wrote them (a part of that text). -/
import Derived.Shelf.Small.Utf8
import Derived.Shelf.Small.Strs
import Derived.Shelf.Strings.Search1
import Derived.Shelf.Strings.Runes
import Derived.Shelf.Strings.IndexAny
import Derived.Shelf.Strings.AsciiSet
import Derived.Shelf.Strings.IndexAnyAll
import Derived.Ground.Names2Prog
import Derived.Shelf.Slices.Delete
import Derived.Shelf.Slices.Cells
import Derived.Shelf.Slices.Empties
import Derived.Test.YthgjpoeneihmnaaProg
namespace Go.Proofs
open Go.Shelf
def Try.lays150_ren : Go.Shelf.Ren := ⟨fun | 150 => 52 | 153 => 73 | 152 => 83 | 226 => 84 | 227 => 85 | 228 => 86 | 137 => 97 | 119 => 98 | 224 => 99 | 225 => 100 | 217 => 104 | 266 => 106 | n => n, fun | 9 => 9 | 4 => 4 | 3 => 3 | 5 => 5 | 21 => 21 | 117 => 109 | 116 => 108 | 0 => 0 | 46 => 120 | 124 => 121 | n => n, fun | n => n⟩
theorem Try.lays150 : Go.Proofs.Lays.n150 Try.prog Try.lays150_ren := {
  mixed := by kernel_rfl
  f119 := Try.func98.trans (congrArg some (by kernel_rfl))
  f137 := Try.func97.trans (congrArg some (by kernel_rfl))
  f150 := Try.func52.trans (congrArg some (by kernel_rfl))
  f152 := Try.func83.trans (congrArg some (by kernel_rfl))
  f153 := Try.func73.trans (congrArg some (by kernel_rfl))
  f217 := Try.func104.trans (congrArg some (by kernel_rfl))
  f224 := Try.func99.trans (congrArg some (by kernel_rfl))
  f225 := Try.func100.trans (congrArg some (by kernel_rfl))
  f226 := Try.func84.trans (congrArg some (by kernel_rfl))
  f227 := Try.func85.trans (congrArg some (by kernel_rfl))
  f228 := Try.func86.trans (congrArg some (by kernel_rfl))
  f266 := Try.func106.trans (congrArg some (by kernel_rfl))
  t0 := Try.underlying0
  a0 := Try.isAgg0
  z0 := Try.sizeOf0
  v0 := Try.zeroValue0
  t3 := Try.underlying3
  a3 := Try.isAgg3
  z3 := Try.sizeOf3
  v3 := Try.zeroValue3
  t4 := Try.underlying4
  a4 := Try.isAgg4
  z4 := Try.sizeOf4
  v4 := Try.zeroValue4
  t5 := Try.underlying5
  a5 := Try.isAgg5
  z5 := Try.sizeOf5
  v5 := Try.zeroValue5
  t9 := Try.underlying9
  a9 := Try.isAgg9
  z9 := Try.sizeOf9
  v9 := Try.zeroValue9
  t21 := Try.underlying21
  a21 := Try.isAgg21
  z21 := Try.sizeOf21
  v21 := Try.zeroValue21
  t46 := Try.underlying120
  a46 := Try.isAgg120
  z46 := Try.sizeOf120
  v46 := Try.zeroValue120
  t116 := Try.underlying108
  a116 := Try.isAgg108
  z116 := Try.sizeOf108
  t117 := Try.underlying109
  a117 := Try.isAgg109
  z117 := Try.sizeOf109
  v117 := Try.zeroValue109
  t124 := Try.underlying121
  a124 := Try.isAgg121
  z124 := Try.sizeOf121
  v124 := Try.zeroValue121 }
open Go.RowKit Go.Lib in
theorem Try.strings_ContainsAny_laid (s chars : ByteArray) (w : World) (hs : s.size < 4294967281) (hcs : chars.size < 4294967281) (has : ∀ (j : Nat) b, s.data.toList[j]? = some b → b.toNat < 128) (hac : ∀ (j : Nat) b, chars.data.toList[j]? = some b → b.toNat < 128) :
    Calls Try.prog 52 #[.string s, .string chars] w fun e w' => e = .returned (.bool (Lib.containsAny s.data.toList chars.data.toList)) ∧ Below w.heap.size w w' := Any.strings_ContainsAny_laid Try.lays150 (by kernel_rfl) s chars w hs hcs has hac
end Go.Proofs
