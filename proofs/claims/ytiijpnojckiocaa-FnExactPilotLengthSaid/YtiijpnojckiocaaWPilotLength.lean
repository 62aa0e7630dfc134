/- The walk of the law FnExactPilotLength. -/
import Derived.Test.YtiijpnojckiocaaPilot
namespace Go.Proofs.Ytiijpnojckiocaa.fnExactPilotLength
open Go.ChangeShapes Go.WideShapes Go.ChangeAt Go.RowKit
set_option linter.unusedVariables false

set_option maxHeartbeats 400000 in
theorem walk (s0 : ByteArray) (n0 : Int) (w : World) (hs0 : s0.size ≤ maxLen) (hn0 : (Lit.int .i64 n0).wf = true) :
    Calls Try.prog 8 #[.agg #[.string s0, .int .i64 n0]] w fun e w' => e = .returned (.bool true) ∧ Below w.heap.size w w' := by
  by_cases h : 1048576 - (s0.size : Int) < 0
  · have hl := leftOf_neg h
    go_enter Try.func8, Try.ntmps8
    go_wp2_with fail
    refine (szPilot_any _ _ _ _ hs0 (by omega) (by omega)).mono ?_
    rintro e w1 ⟨rfl, hb⟩
    go_wp2
    go_ret
    exact ⟨rfl, below_out hb⟩
  · have hl := leftOf_pos h
    go_enter Try.func8, Try.ntmps8
    go_wp2_with fail
    refine (szPilot_any _ _ _ _ hs0 (by omega) (by omega)).mono ?_
    rintro e w1 ⟨rfl, hb⟩
    obtain ⟨hc, hf⟩ := bcell hb
    go_wp2_with fail
    refine (toPilot_any _ _ _).mono ?_
    rintro e w2 ⟨rfl, k⟩
    replace hb := below_next hb k
    clear hc hf k
    obtain ⟨hc, hf⟩ := bcell hb
    go_wp2_with fail
    refine (plenS_any _ _ _ hs0).mono ?_
    rintro e w3 ⟨rfl, k⟩
    replace hb := below_next hb k
    clear hc hf k
    obtain ⟨hc, hf⟩ := bcell hb
    go_wp2_with fail
    refine (toPilot_any _ _ _).mono ?_
    rintro e w4 ⟨rfl, k⟩
    replace hb := below_next hb k
    clear hc hf k
    obtain ⟨hc, hf⟩ := bcell hb
    go_wp2_with fail
    refine (plenI_any _ _ _ hs0).mono ?_
    rintro e w5 ⟨rfl, k⟩
    replace hb := below_next hb k
    clear hc hf k
    go_wp2
    go_ret
    exact ⟨rfl, below_out hb⟩
end Go.Proofs.Ytiijpnojckiocaa.fnExactPilotLength
