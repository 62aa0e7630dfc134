/- The walk of the law FnExactHammingSyndrome. -/
import Derived.Test.YtiijpnojckiocaaHamming
namespace Go.Proofs.Ytiijpnojckiocaa.fnExactHammingSyndrome
open Go.ChangeShapes Go.WideShapes Go.ChangeAt Go.RowKit
set_option linter.unusedVariables false

set_option maxHeartbeats 400000 in
theorem walk (s0 : ByteArray) (w : World) (hs0 : s0.size ≤ maxLen) :
    Calls Try.prog 5 #[.string s0] w fun e w' => e = .returned (.bool true) ∧ Below w.heap.size w w' := by
  by_cases h : s0.size ≤ 1048576
  all_goals unfold maxLen at hs0
  · have hm : s0.size ≤ maxLen := by unfold maxLen; omega
    go_enter Try.func5, Try.ntmps5
    go_wp2_with fail
    refine (hsynS_any _ _ hm).mono ?_
    rintro e w1 ⟨rfl, hb⟩
    go_wp2_with fail
    refine (hsynI_any _ _ hm).mono ?_
    rintro e w2 ⟨rfl, k⟩
    replace hb := below_next hb k
    clear k
    go_wp2
    go_ret
    exact ⟨rfl, hb⟩
  · go_enter Try.func5, Try.ntmps5
    go_wp2
    go_ret
    exact ⟨rfl, Below.refl _ _⟩
end Go.Proofs.Ytiijpnojckiocaa.fnExactHammingSyndrome
