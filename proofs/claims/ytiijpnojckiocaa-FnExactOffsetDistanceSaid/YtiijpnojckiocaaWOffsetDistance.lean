/- The walk of the law FnExactOffsetDistance. -/
import Derived.Test.YtiijpnojckiocaaDist
namespace Go.Proofs.Ytiijpnojckiocaa.fnExactOffsetDistance
open Go.ChangeShapes Go.WideShapes Go.ChangeAt Go.RowKit
set_option linter.unusedVariables false

set_option maxHeartbeats 400000 in
theorem walk (s0 : ByteArray) (n0 : Int) (n1 : Int) (n2 : Int) (w : World) (hs0 : s0.size ≤ maxLen) (hn0 : (Lit.int .i64 n0).wf = true) (hn1 : (Lit.int .i64 n1).wf = true) (hn2 : (Lit.int .i64 n2).wf = true) :
    Calls Try.prog 11 #[.agg #[.string s0, .int .i64 n0], .int .i64 n1, .int .i64 n2] w fun e w' => e = .returned (.bool true) ∧ Below w.heap.size w w' := by
  obtain ⟨b1a, b1b⟩ := wf_i64 hn1
  obtain ⟨b2a, b2b⟩ := wf_i64 hn2
  by_cases h : 1048576 - (s0.size : Int) < 0
  · have hl := leftOf_neg h
    go_enter Try.func11, Try.ntmps11
    go_wp2_with fail
    refine (szPilot_any _ _ _ _ hs0 (by omega) (by omega)).mono ?_
    rintro e w1 ⟨rfl, hb⟩
    go_wp2
    go_ret
    exact ⟨rfl, below_out hb⟩
  · have hl := leftOf_pos h
    go_enter Try.func11, Try.ntmps11
    go_wp2_with fail
    refine (szPilot_any _ _ _ _ hs0 (by omega) (by omega)).mono ?_
    rintro e w1 ⟨rfl, hb⟩
    obtain ⟨hc, hf⟩ := bcell hb
    go_wp2_with fail
    refine (toPilot_any _ _ _).mono ?_
    rintro e w2 ⟨rfl, k⟩
    replace hb := below_next hb k
    clear hc hf k
    obtain ⟨hc, hf⟩ := bcell hb
    go_wp2_with fail
    refine (distS_any _ _ _ _ _ hs0).mono ?_
    rintro e w3 ⟨rfl, k⟩
    replace hb := below_next hb k
    clear hc hf k
    obtain ⟨hc, hf⟩ := bcell hb
    go_wp2_with fail
    refine (toPilot_any _ _ _).mono ?_
    rintro e w4 ⟨rfl, k⟩
    replace hb := below_next hb k
    clear hc hf k
    obtain ⟨hc, hf⟩ := bcell hb
    go_wp2_with fail
    refine (distI_any _ _ _ _ _ hs0).mono ?_
    rintro e w5 ⟨rfl, k⟩
    replace hb := below_next hb k
    clear hc hf k
    go_wp2
    go_ret
    exact ⟨rfl, below_out hb⟩
end Go.Proofs.Ytiijpnojckiocaa.fnExactOffsetDistance
