/- The walk of the law FnExactFindFrame. -/
import Derived.Test.YtfjoliegjmcbgaaFind
namespace Go.Proofs.Ytfjoliegjmcbgaa.fnExactFindFrame
open Go.ChangeShapes Go.WideShapes Go.ChangeAt Go.RowKit
set_option linter.unusedVariables false

set_option maxHeartbeats 400000 in
theorem walk (s0 : ByteArray) (n1 : Int) (w : World) (hs0 : s0.size ≤ maxLen) (hn1 : (Lit.int .i64 n1).wf = true) :
    Calls Try.prog 6 #[.string s0, .int .i64 n1] w fun e w' => e = .returned (.bool true) ∧ Below w.heap.size w w' := by
  by_cases h : s0.size ≤ 1048576
  all_goals obtain ⟨b1a, b1b⟩ := wf_i64 hn1
  all_goals unfold maxLen at hs0
  · have hm : s0.size ≤ maxLen := by unfold maxLen; omega
    go_enter Try.func6, Try.ntmps6
    go_wp2_with fail
    refine (findS_arr _ _ _ (by omega) b1a b1b).mono ?_
    rintro e w1 ⟨rfl, hb⟩
    go_wp2_with fail
    refine (findI_arr _ _ _ (by omega) b1a b1b).mono ?_
    rintro e w2 ⟨rfl, k⟩
    replace hb := below_next hb k
    clear k
    go_wp2
    go_ret
    exact ⟨rfl, hb⟩
  · go_enter Try.func6, Try.ntmps6
    go_wp2
    go_ret
    exact ⟨rfl, Below.refl _ _⟩
end Go.Proofs.Ytfjoliegjmcbgaa.fnExactFindFrame
