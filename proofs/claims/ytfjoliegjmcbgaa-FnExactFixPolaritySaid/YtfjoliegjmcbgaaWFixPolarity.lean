/- The walk of the law FnExactFixPolarity. -/
import Derived.Test.YtfjoliegjmcbgaaFix
namespace Go.Proofs.Ytfjoliegjmcbgaa.fnExactFixPolarity
open Go.ChangeShapes Go.WideShapes Go.ChangeAt Go.RowKit
set_option linter.unusedVariables false

set_option maxHeartbeats 400000 in
theorem walk (s0 : ByteArray) (w : World) (hs0 : s0.size ≤ maxLen) :
    Calls Try.prog 8 #[.string s0] w fun e w' => e = .returned (.bool true) ∧ Below w.heap.size w w' := by
  by_cases h : s0.size ≤ 1048576
  all_goals unfold maxLen at hs0
  · have hm : s0.size ≤ maxLen := by unfold maxLen; omega
    obtain ⟨x1, x2, hx⟩ := strRes_form (fixP s0.data.toList)
    have HX := Lib.hid hx
    clear hx
    go_enter Try.func8, Try.ntmps8
    go_wp2_with fail
    refine (fixS_arr _ _ (by omega)).mono ?_
    rintro e w1 ⟨he, hb⟩
    rw [HX.out] at he
    subst he
    go_wp2_with fail
    refine (fixI_arr _ _ (by omega)).mono ?_
    rintro e w2 ⟨he, k⟩
    rw [HX.out] at he
    subst he
    replace hb := below_next hb k
    clear k
    go_wp2
    go_ret
    exact ⟨rfl, hb⟩
  · go_enter Try.func8, Try.ntmps8
    go_wp2
    go_ret
    exact ⟨rfl, Below.refl _ _⟩
end Go.Proofs.Ytfjoliegjmcbgaa.fnExactFixPolarity
