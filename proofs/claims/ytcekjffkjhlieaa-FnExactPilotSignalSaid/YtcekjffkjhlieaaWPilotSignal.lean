/- The walk of the law FnExactPilotSignal. -/
import Derived.Test.YtcekjffkjhlieaaPsig
namespace Go.Proofs.Ytcekjffkjhlieaa.fnExactPilotSignal
open Go.ChangeShapes Go.WideShapes Go.ChangeAt Go.RowKit
set_option linter.unusedVariables false
set_option linter.unusedSimpArgs false

set_option maxHeartbeats 4000000 in
theorem walk (s1 : ByteArray) (n1 : Int) (n11 : Int) (n2 : Int) (n3 : Int) (w : World) (hs1 : s1.size ≤ maxLen) (hn1 : (Lit.int .i64 n1).wf = true) (hn11 : (Lit.int .i64 n11).wf = true) (hn2 : (Lit.int .i64 n2).wf = true) (hn3 : (Lit.int .i64 n3).wf = true) :
    Calls Try.prog 3 #[.agg #[.string s1, .int .i64 n1], .int .i64 n11, .int .i64 n2, .int .i64 n3] w fun e w' => e = .returned (.bool true) ∧ Below w.heap.size w w' := by
  obtain ⟨bn11a, bn11b⟩ := wf_i64 hn11
  obtain ⟨bn2a, bn2b⟩ := wf_i64 hn2
  obtain ⟨bn3a, bn3b⟩ := wf_i64 hn3
  have hs1' := hs1
  unfold maxLen at hs1'
  by_cases h : 1048576 - (s1.size : Int) < 0
  · have hl := leftOf_neg h
    go_enter Try.func3, Try.ntmps3
    have hb := Below.refl (w.alloc (.cells #[.string s1, .int .i64 n1] 23)).heap.size (w.alloc (.cells #[.string s1, .int .i64 n1] 23))
    go_wp2_with fail
    refine (szPilot_any _ _ _ _ hs1 (by omega) (by omega)).mono ?_
    rintro e w1 ⟨rfl, k⟩
    replace hb := below_next hb k
    clear k
    (try clear hc hf)
    obtain ⟨hc, hf⟩ := bcell hb
    go_wp2
    go_ret
    exact ⟨rfl, below_out hb⟩
  have hl := leftOf_pos h
  obtain ⟨L, hL⟩ : ∃ L : List Int, L = psL s1 n1 n11 n2 n3 := ⟨_, rfl⟩
  have hLl : L.length ≤ 1048576 := by rw [hL]; exact Nat.le_trans (psL_len _ _ _ _ _) (by omega)
  have HLL := Lib.hid hL
  clear hL
  go_enter Try.func3, Try.ntmps3
  have hb := Below.refl (w.alloc (.cells #[.string s1, .int .i64 n1] 23)).heap.size (w.alloc (.cells #[.string s1, .int .i64 n1] 23))
  go_wp2_with fail
  refine (szPilot_any _ _ _ _ hs1 (by omega) (by omega)).mono ?_
  rintro e w1 ⟨rfl, k⟩
  replace hb := below_next hb k
  clear k
  (try clear hc hf)
  obtain ⟨hc, hf⟩ := bcell hb
  go_wp2_with fail
  refine (toPilot_any _ _ _).mono ?_
  rintro e u2 ⟨rfl, k2⟩
  have hu2 := below_next hb k2
  have z2 := k2.size
  clear hc hf hb k2
  obtain ⟨hc, hf⟩ := bcell hu2
  go_wp2_with fail
  refine (psS_any _ _ _ _ _ _ hs1).mono ?_
  rintro e u3 ⟨v0, he, h0, k3⟩
  subst he
  have hu3 := below_next hu2 k3
  have z3 := k3.size
  clear hc hf hu2 k3
  rw [← HLL.out] at h0
  have zw := hu3.size
  obtain ⟨hc, hf⟩ := bcell hu3
  go_wp2_with fail
  refine (toPilot_any _ _ _).mono ?_
  rintro e v2 ⟨rfl, ky⟩
  replace h0 := h0.below ky (by omega)
  have hv2 := below_next hu3 ky
  have zv2 := ky.size
  clear ky hc hf hu3
  obtain ⟨hc, hf⟩ := bcell hv2
  go_wp2_with fail
  refine (psI_any _ _ _ _ _ _ hs1).mono ?_
  rintro e v3 ⟨g0, he, hg, kz⟩
  subst he
  rw [← HLL.out] at hg
  replace h0 := h0.below kz (by omega)
  have hv3 := below_next hv2 kz
  have zv3 := kz.size
  clear kz hc hf hv2
  obtain ⟨hc, hf⟩ := bcell hv3
  go_wp2_with fail
  refine (eqS_any hg h0 (by omega) (by omega) hLl).mono ?_
  rintro e v4 ⟨rfl, kv4⟩
  replace h0 := h0.below kv4 (by omega)
  replace hg := hg.below kv4 (by omega)
  have hv4 := below_next hv3 kv4
  have zv4 := kv4.size
  clear kv4 hc hf hv3
  obtain ⟨hc, hf⟩ := bcell hv4
  go_wp2_with fail
  refine (mark_any hg hLl).mono ?_
  rintro e v9 ⟨rfl, hm, row, hgr, hrow⟩
  replace h0 := h0.kept hgr (fun g e => by have := hrow g e; omega)
  replace hg := hm
  have hv9 : Below (w.alloc (.cells #[.string s1, .int .i64 n1] 23)).heap.size (w.alloc (.cells #[.string s1, .int .i64 n1] 23)) v9 := hv4.grown hgr hv4.size (fun g e => by have := hrow g e; omega)
  have zv9 := hgr.size
  clear hgr hrow hm hc hf hv4
  obtain ⟨hc, hf⟩ := bcell hv9
  go_wp2_with fail
  refine (held_any hg (by omega) hLl).mono ?_
  rintro e w' ⟨rfl, rfl⟩
  go_wp2_with fail
  refine (toPilot_any _ _ _).mono ?_
  rintro e x2 ⟨rfl, kx2⟩
  replace h0 := h0.below kx2 (by omega)
  replace hg := hg.below kx2 (by omega)
  have hx2 := below_next hv9 kx2
  have zx2 := kx2.size
  clear kx2 hc hf hv9
  obtain ⟨hc, hf⟩ := bcell hx2
  go_wp2_with fail
  refine (psI_any _ _ _ _ _ _ hs1).mono ?_
  rintro e x3 ⟨t0, he, ht, kx3⟩
  subst he
  replace h0 := h0.below kx3 (by omega)
  replace hg := hg.below kx3 (by omega)
  have hx3 := below_next hx2 kx3
  have zx3 := kx3.size
  clear kx3 hc hf hx2
  obtain ⟨hc, hf⟩ := bcell hx3
  rw [← HLL.out] at ht
  go_wp2_with fail
  refine (eqS_any ht h0 (by omega) (by omega) hLl).mono ?_
  rintro e x4 ⟨rfl, kx4⟩
  replace h0 := h0.below kx4 (by omega)
  replace hg := hg.below kx4 (by omega)
  replace ht := ht.below kx4 (by omega)
  have hx4 := below_next hx3 kx4
  have zx4 := kx4.size
  clear kx4 hc hf hx3
  obtain ⟨hc, hf⟩ := bcell hx4
  go_wp2_with fail
  refine (held_any hg (by omega) hLl).mono ?_
  rintro e w' ⟨rfl, rfl⟩
  go_wp2
  go_ret
  exact ⟨rfl, below_out hx4⟩
end Go.Proofs.Ytcekjffkjhlieaa.fnExactPilotSignal
