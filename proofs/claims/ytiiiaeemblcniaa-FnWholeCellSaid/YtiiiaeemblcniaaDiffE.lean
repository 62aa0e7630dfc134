/- Contracts of DiffEncode. -/
import Derived.Test.YtiiiaeemblcniaaDiff
import Derived.Test.YtiiiaeemblcniaaMem
import Derived.Outline
import Derived.Deep.RegionHeld3
import Derived.Deep.DrawnRows
namespace Go.Proofs.Ytiiiaeemblcniaa
set_option maxRecDepth 20000
open Go.ChangeShapes Go.WideShapes Go.ChangeAt Go.RowKit
set_option linter.unusedVariables false
set_option linter.unusedSimpArgs false

/-- bits, or nothing -/
def orNone (l : List UInt8) : Option (List UInt8) := if bitsOK l then some l else none
theorem bitsOK_mk {l : List UInt8} (h : l.length ≤ 600) (hb : ∀ c ∈ l, bit1 c = true) : bitsOK l = true := by
  simp only [bitsOK, Bool.and_eq_true, decide_eq_true_eq, List.all_eq_true]; exact ⟨h, hb⟩
theorem bitsOK_long {l : List UInt8} (h : ¬ l.length ≤ 600) : bitsOK l = false := by
  simp [bitsOK, h]
end Go.Proofs.Ytiiiaeemblcniaa
