/- The walk of the law FnExactBestOffset. -/
import Derived.Test.YtcekjffkjhlieaaBest
namespace Go.Proofs.Ytcekjffkjhlieaa.fnExactBestOffset
open Go.ChangeShapes Go.WideShapes Go.ChangeAt Go.RowKit
set_option linter.unusedVariables false
set_option linter.unusedSimpArgs false

set_option maxHeartbeats 2000000 in
theorem walk (a0 : Option Addr) (len0 cap0 : Nat) (z0 : List Int) (s1 : ByteArray) (n1 : Int)  (w : World) (hw0 : IsRow .i64 w a0 len0 cap0 z0) (hs1 : s1.size ≤ maxLen) (hn1 : (Lit.int .i64 n1).wf = true)  :
    Calls Try.prog 9 #[.slice a0 len0 cap0, .agg #[.string s1, .int .i64 n1]] w fun e w' => e = .returned (.bool true) ∧ Below w.heap.size w w' := by
  obtain ⟨z, rfl, hr, hzm⟩ := isRow_reads hw0
  clear hw0
  unfold maxLen at hzm
  have HR := Lib.hid hr
  clear hr
  have hs1' := hs1
  unfold maxLen at hs1'
  by_cases hlen : z.length ≤ 1048576
  · by_cases h : 1048576 - (s1.size : Int) < 0
    · have hl := leftOf_neg h
      go_enter Try.func9, Try.ntmps9
      have hb := Below.refl (w.alloc (.cells #[.string s1, .int .i64 n1] 23)).heap.size (w.alloc (.cells #[.string s1, .int .i64 n1] 23))
      go_wp2_with fail
      refine (szPilot_any _ _ _ _ hs1 (by omega) (by omega)).mono ?_
      rintro e w1 ⟨rfl, k⟩
      replace hb := below_next hb k
      clear k
      (try clear hc hf)
      obtain ⟨hc, hf⟩ := bcell hb
      go_wp2
      go_ret
      exact ⟨rfl, below_out hb⟩
    · have hl := leftOf_pos h
      have hbig : (1 : Int) ≤ 1048576 := by omega
      go_enter Try.func9, Try.ntmps9
      have hb := Below.refl (w.alloc (.cells #[.string s1, .int .i64 n1] 23)).heap.size (w.alloc (.cells #[.string s1, .int .i64 n1] 23))
      go_wp2_with fail
      refine (szPilot_any _ _ _ _ hs1 (by omega) (by omega)).mono ?_
      rintro e w1 ⟨rfl, k⟩
      replace hb := below_next hb k
      clear k
      (try clear hc hf)
      obtain ⟨hc, hf⟩ := bcell hb
      go_wp2
      clear hc hf
      go_region_held3 (fun u => u.cell? ⟨w.heap.size, 0, none⟩ = some (.string s1) ∧ u.cell? ⟨w.heap.size, 1, none⟩ = some (.int .i64 n1)) (exact lcells (w := w) (t := 23) (by first | assumption | exact Below.drew (by assumption))) (first | (go_at_call 22; refine (toI_any _ _ _ _ (reads_up (o := .cells #[.string s1, .int .i64 n1] 23) HR.out (by first | assumption | exact Below.drew (by assumption))) hlen).mono ?_; rintro e u1 ⟨rfl, hsl, k1⟩; have hu1 := below_next (a := (w.alloc (.cells #[.string s1, .int .i64 n1] 23))) (by first | assumption | exact Below.drew (by assumption)) k1) | (go_at_call 16; refine (toPilot_any _ _ _).mono ?_; rintro e u2 ⟨rfl, k2⟩; have hu2 := below_next hu1 k2; have hsl2 := hsl.below k2 (Nat.le_refl _)) | (go_at_call 32; refine (bestS_any _ _ _ _ _ _ (sl_rd hsl2 k2.size) hlen hs1).mono ?_; rintro e u3 ⟨he, k3⟩; subst he; have hu3 := below_next hu2 k3))
      all_goals
        obtain ⟨hc, hf⟩ := bcell hu3
        go_wp2_with fail
        refine (toI_any _ _ _ _ (reads_up HR.out hu3) hlen).mono ?_
        rintro e v1 ⟨rfl, hsx, kx⟩
        have hv1 := below_next hu3 kx
        clear hc hf
        obtain ⟨hc, hf⟩ := bcell hv1
        go_wp2_with fail
        refine (toPilot_any _ _ _).mono ?_
        rintro e v2 ⟨rfl, k⟩
        have hsx2 := hsx.below k (Nat.le_refl _)
        have hv2 := below_next hv1 k
        clear hc hf
        obtain ⟨hc, hf⟩ := bcell hv2
        go_wp2_with fail
        refine (bestI_any _ _ _ _ _ _ (sl_rd hsx2 k.size) hlen hs1).mono ?_
        rintro e v3 ⟨he, k3⟩
        subst he
        have hsx3 := hsx2.below k3 k.size
        have hv3 := below_next hv2 k3
        clear hc hf
        obtain ⟨hc, hf⟩ := bcell hv3
        go_wp2_with fail
        refine (toI_any _ _ _ _ (reads_up HR.out hv3) hlen).mono ?_
        rintro e v4 ⟨rfl, hsy, k4⟩
        have hsx4 := hsx3.below k4 (Nat.le_trans k.size k3.size)
        have hv4 := below_next hv3 k4
        clear hc hf
        obtain ⟨hc, hf⟩ := bcell hv4
        go_wp2_with fail
        refine (eqS_any hsx4 hsy (Nat.le_trans (Nat.le_trans k.size k3.size) k4.size) (Nat.le_refl _) hlen).mono ?_
        rintro e v5 ⟨rfl, k5⟩
        have hv5 := below_next hv4 k5
        go_wp2
        go_ret
        exact ⟨rfl, below_out hv5⟩
  · go_enter Try.func9, Try.ntmps9
    go_wp2
    go_ret
    exact ⟨rfl, (Below.refl _ _).alloc (Nat.le_refl _) _⟩
end Go.Proofs.Ytcekjffkjhlieaa.fnExactBestOffset
