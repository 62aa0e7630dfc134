/- The walk of the law FnExactPilotValid. -/
import Derived.Test.YtiijpnojckiocaaPilot
namespace Go.Proofs.Ytiijpnojckiocaa.fnExactPilotValid
open Go.ChangeShapes Go.WideShapes Go.ChangeAt Go.RowKit


set_option maxHeartbeats 400000 in
theorem walk (s : ByteArray) (n : Int) (w : World) (hs : s.size ≤ maxLen) (_ : (Lit.int .i64 n).wf = true) :
    Calls Try.prog 3 #[.agg #[.string s, .int .i64 n]] w fun e w' => e = .returned (.bool true) ∧ Below w.heap.size w w' := by
  by_cases h : 1048576 - (s.size : Int) < 0
  · have hl := leftOf_neg h
    go_enter Try.func3, Try.ntmps3
    go_wp2_with (go_at_call 15; refine (szPilot_any _ _ _ _ hs (by omega) (by omega)).mono ?_; rintro e w' ⟨rfl, hb⟩)
    go_ret
    exact ⟨rfl, ((Below.refl _ _).alloc (Nat.le_refl _) _).trans (hb.mono (by simp))⟩
  · have hl := leftOf_pos h
    go_enter Try.func3, Try.ntmps3
    go_wp2_with (go_at_call 15; refine (szPilot_any _ _ _ _ hs (by omega) (by omega)).mono ?_; rintro e w' ⟨rfl, hb⟩; obtain ⟨hc, hf⟩ := bcell hb)
    go_wp2_with fail
    refine (toPilot_any _ _ _).mono ?_
    rintro e w1 ⟨rfl, k⟩
    replace hb := below_next hb k
    clear hc hf k
    obtain ⟨hc, hf⟩ := bcell hb
    go_wp2_with fail
    refine (pilotS_any _ _ _ hs).mono ?_
    rintro e w2 ⟨rfl, k⟩
    replace hb := below_next hb k
    clear hc hf k
    obtain ⟨hc, hf⟩ := bcell hb
    go_wp2_with fail
    refine (toPilot_any _ _ _).mono ?_
    rintro e w3 ⟨rfl, k⟩
    replace hb := below_next hb k
    clear hc hf k
    obtain ⟨hc, hf⟩ := bcell hb
    go_wp2_with fail
    refine (pilotI_any _ _ _ hs).mono ?_
    rintro e w4 ⟨rfl, k⟩
    replace hb := below_next hb k
    clear hc hf k
    go_wp2_with fail
    go_ret
    exact ⟨rfl, below_out hb⟩

end Go.Proofs.Ytiijpnojckiocaa.fnExactPilotValid
