/- The walk of the law FnExactMajorityBits. -/
import Derived.Test.YtfjoliegjmcbgaaMajor
namespace Go.Proofs.Ytfjoliegjmcbgaa.fnExactMajorityBits
open Go.ChangeShapes Go.WideShapes Go.ChangeAt Go.RowKit
set_option linter.unusedVariables false

set_option maxHeartbeats 400000 in
theorem walk (s0 : ByteArray) (n1 : Int) (w : World) (hs0 : s0.size ≤ maxLen) (hn1 : (Lit.int .i64 n1).wf = true) :
    Calls Try.prog 7 #[.string s0, .int .i64 n1] w fun e w' => e = .returned (.bool true) ∧ Below w.heap.size w w' := by
  by_cases h : s0.size ≤ 1048576
  all_goals obtain ⟨b1a, b1b⟩ := wf_i64 hn1
  all_goals unfold maxLen at hs0
  · have hm : s0.size ≤ maxLen := by unfold maxLen; omega
    obtain ⟨x1, x2, hx⟩ := strRes_form (major s0.data.toList n1)
    have HX := Lib.hid hx
    clear hx
    go_enter Try.func7, Try.ntmps7
    go_wp2_with fail
    refine (majS_arr _ _ _ (by omega)).mono ?_
    rintro e w1 ⟨he, hb⟩
    rw [HX.out] at he
    subst he
    go_wp2_with fail
    refine (majI_arr _ _ _ (by omega)).mono ?_
    rintro e w2 ⟨he, k⟩
    rw [HX.out] at he
    subst he
    replace hb := below_next hb k
    clear k
    go_wp2
    go_ret
    exact ⟨rfl, hb⟩
  · go_enter Try.func7, Try.ntmps7
    go_wp2
    go_ret
    exact ⟨rfl, Below.refl _ _⟩
end Go.Proofs.Ytfjoliegjmcbgaa.fnExactMajorityBits
