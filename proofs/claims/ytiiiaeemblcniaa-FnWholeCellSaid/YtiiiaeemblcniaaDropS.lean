/- Contracts of the reference's DropSample and RepeatSample. -/
import Derived.Test.YtiiiaeemblcniaaDrop
import Derived.Deep.RegionHeld3
namespace Go.Proofs.Ytiiiaeemblcniaa
set_option maxRecDepth 20000
open Go.ChangeShapes Go.WideShapes Go.ChangeAt Go.RowKit
set_option linter.unusedVariables false
set_option linter.unusedSimpArgs false

theorem sl_empty {w : World} : Sl (w.alloc (.cells #[] 3)) w.heap.size (w.alloc (.cells #[] 3)).heap.size (.slice (some ⟨w.heap.size, 0, none⟩) 0 0) [] := Sl.of_own (l := []) (Own.lit (w := w) (B := w.heap.size) 3 #[] 0 (Nat.le_refl _) (Nat.zero_le _) rfl) (by simp)
end Go.Proofs.Ytiiiaeemblcniaa
