/- The walk of the law FnExactScrambleBits. -/
import Derived.Test.YtfjoliegjmcbgaaRun
namespace Go.Proofs.Ytfjoliegjmcbgaa.fnExactScrambleBits
open Go.ChangeShapes Go.WideShapes Go.ChangeAt Go.RowKit
set_option linter.unusedVariables false

set_option maxHeartbeats 400000 in
theorem walk (s0 : ByteArray) (n1 n2 n3 : Int) (w : World) (hs0 : s0.size ≤ maxLen) (hn1 : (Lit.int .i64 n1).wf = true) (hn2 : (Lit.int .i64 n2).wf = true) (hn3 : (Lit.int .i64 n3).wf = true) :
    Calls Try.prog 4 #[.string s0, .agg #[.int .i64 n1, .int .i64 n2, .int .i64 n3]] w fun e w' => e = .returned (.bool true) ∧ Below w.heap.size w w' := by
  by_cases h : s0.size ≤ 1048576
  all_goals unfold maxLen at hs0
  · obtain ⟨x1, x2, hx⟩ := strRes_form (scram s0.data.toList n1 n2 n3)
    have HX := Lib.hid hx
    clear hx
    have HS := Lib.hid (fun u : World => scramS_any s0.data.toList n1 n2 n3 u (by rw [data_length]; omega))
    have HI := Lib.hid (fun u : World => scramI_any s0.data.toList n1 n2 n3 u (by rw [data_length]; omega))
    rw [str_of] at HS HI
    rw [HX.out] at HS HI
    go_enter Try.func4, Try.ntmps4
    go_wp2_with fail
    refine (toReg_any _ _ _ _).mono ?_
    rintro e w1 ⟨rfl, hb⟩
    obtain ⟨hc, hf⟩ := bcell hb
    go_wp2_with fail
    refine (HS.out _).mono ?_
    rintro e w2 ⟨rfl, k⟩
    replace hb := below_next hb k
    clear k
    (try clear hc hf)
    obtain ⟨hc, hf⟩ := bcell hb
    go_wp2_with fail
    refine (toReg_any _ _ _ _).mono ?_
    rintro e w3 ⟨rfl, k⟩
    replace hb := below_next hb k
    clear k
    (try clear hc hf)
    obtain ⟨hc, hf⟩ := bcell hb
    go_wp2_with fail
    refine (HI.out _).mono ?_
    rintro e w4 ⟨rfl, k⟩
    replace hb := below_next hb k
    clear k
    (try clear hc hf)
    obtain ⟨hc, hf⟩ := bcell hb
    go_wp2
    go_ret
    exact ⟨rfl, below_out hb⟩
  · go_enter Try.func4, Try.ntmps4
    go_wp2
    go_ret
    exact ⟨rfl, (Below.refl _ _).alloc (Nat.le_refl _) _⟩
end Go.Proofs.Ytfjoliegjmcbgaa.fnExactScrambleBits
