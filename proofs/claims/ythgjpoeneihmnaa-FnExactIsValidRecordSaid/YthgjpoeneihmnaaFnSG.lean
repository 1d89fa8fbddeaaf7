/- Functions of the log's records: the program's. -/
import Derived.Test.YthgjpoeneihmnaaFnSF
namespace Go.Proofs.Ythgjpoeneihmnaa.Ev
open Go
set_option linter.unusedVariables false
set_option linter.unusedSimpArgs false
set_option maxRecDepth 100000
set_option exponentiation.threshold 100000

abbrev shStrB : Sh := .pair .str (.pair .bool .unit)
def okSeal (l : Txt) : Bool := decide (l.length ≤ 4000) && (!(decide ((35 : UInt8) ∈ l)) && decide ((seal1 l).length ≤ 4000))
def sealR (l : Txt) : ByteArray × Bool × Unit := if okSeal l = true then (mk (seal1 l), true, ()) else (mk [], false, ())
theorem sealR_yes {l : Txt} (h : okSeal l = true) : sealR l = (mk (seal1 l), true, ()) := by unfold sealR; rw [if_pos h]
theorem sealR_no {l : Txt} (h : okSeal l = false) : sealR l = (mk [], false, ()) := by unfold sealR; rw [h]; rfl

def okVer (l : Txt) : Bool := okSeal (bef 35 l) && decide (seal1 (bef 35 l) = l)
def verT (l : Txt) : Txt := if okVer l = true then bef 35 l else []
theorem okSeal_body {k : Nat} {e : Rec} (h : okRec e = true) (hk : k < 100) : okSeal (body k e) = true := by
  have O := okRec_of h
  have h1 := body_length O hk
  have h2 := seal_length (body k e)
  unfold okSeal
  rw [decide_eq_true (by omega : (body k e).length ≤ 4000), decide_eq_false (body_no O), decide_eq_true (by omega : (seal1 (body k e)).length ≤ 4000)]; rfl

def okEnc (k : Int) (e : Rec) : Bool := inB k 0 59 && okRec e
def encR (k : Int) (e : Rec) : ByteArray × Bool × Unit := if okEnc k e = true then (mk (lineOf k.toNat e), true, ()) else (mk [], false, ())
theorem encR_yes {k : Int} {e : Rec} (h : okEnc k e = true) : encR k e = (mk (lineOf k.toNat e), true, ()) := by unfold encR; rw [if_pos h]
theorem encR_no {k : Int} {e : Rec} (h : okEnc k e = false) : encR k e = (mk [], false, ()) := by unfold encR; rw [h]; rfl
end Go.Proofs.Ythgjpoeneihmnaa.Ev
