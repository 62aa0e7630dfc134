/- The walk of the law FnExactRepeatSample. -/
import Derived.Test.YtfcnpbcnpielcaaDropSE
namespace Go.Proofs.Ytfcnpbcnpielcaa.fnExactRepeatSample
set_option maxRecDepth 20000
open Go.ChangeShapes Go.WideShapes Go.ChangeAt Go.RowKit
set_option linter.unusedVariables false
set_option linter.unusedSimpArgs false

set_option maxHeartbeats 4000000 in
theorem walk (a0 : Option Addr) (len0 cap0 : Nat) (z0 : List Int) (n1 : Int) (w : World) (hw0 : IsRow .i64 w a0 len0 cap0 z0) (hn1 : (Lit.int .i64 n1).wf = true) :
    Calls Try.prog 4 #[.slice a0 len0 cap0, .int .i64 n1] w fun e w' => e = .returned (.bool true) ∧ Below w.heap.size w w' := by
  obtain ⟨bn1a, bn1b⟩ := wf_i64 hn1
  obtain ⟨z, rfl, hr, hzm⟩ := isRow_reads hw0
  clear hw0
  unfold maxLen at hzm
  have HR := Lib.hid hr
  clear hr
  by_cases hlen : z.length ≤ 1048576
  rotate_left
  · go_enter Try.func4, Try.ntmps4
    go_wp2
    go_ret
    exact ⟨rfl, Below.refl _ _⟩
  obtain ⟨L, hL⟩ : ∃ L : List Int, L = wcL z n1 2 := ⟨_, rfl⟩
  have hLl : L.length ≤ 1048576 := by rw [hL]; exact wcL_len z n1 2
  have HLL := Lib.hid hL
  clear hL
  go_enter Try.func4, Try.ntmps4
  have hb := Below.refl w.heap.size w
  go_wp2_with fail
  refine (toI_any _ _ _ _ ((HR.out.below hb (Nat.le_refl _)).more hb.size) hlen).mono ?_
  rintro e u2 ⟨rfl, hsl2, k2⟩
  have hu2 := below_next hb k2
  have z2 := k2.size
  clear hb
  go_wp2_with fail
  refine (repS5_any _ _ _ _ _ (sl_rd hsl2 (Nat.le_refl _)) (Nat.le_refl _) hlen).mono ?_
  rintro e u3 ⟨v0, he, h0, k3⟩
  subst he
  have hu3 := below_next hu2 k3
  have z3 := k3.size
  clear hu2 k3 hsl2 k2
  rw [← HLL.out] at h0
  have zw := hu3.size
  go_wp2_with fail
  refine (toI_any _ _ _ _ ((HR.out.below hu3 (Nat.le_refl _)).more hu3.size) hlen).mono ?_
  rintro e v1 ⟨rfl, hx, kx⟩
  replace h0 := h0.below kx (by omega)
  have hv1 := below_next hu3 kx
  have zv1 := kx.size
  clear kx hu3
  go_wp2_with fail
  refine (repI5_any _ _ _ _ _ (sl_rd hx (by omega)) (Nat.le_refl _) hlen).mono ?_
  rintro e v3 ⟨g0, he, hg, kz⟩
  subst he
  rw [← HLL.out] at hg
  replace h0 := h0.below kz (by omega)
  replace hx := hx.below kz (by omega)
  have hv3 := below_next hv1 kz
  have zv3 := kz.size
  clear kz hv1
  go_wp2_with fail
  refine (eqS_any hg h0 (by omega) (by omega) hLl).mono ?_
  rintro e v4 ⟨rfl, kv4⟩
  replace h0 := h0.below kv4 (by omega)
  replace hx := hx.below kv4 (by omega)
  replace hg := hg.below kv4 (by omega)
  have hv4 := below_next hv3 kv4
  have zv4 := kv4.size
  clear kv4 hv3
  go_wp2_with fail
  refine (toI_any _ _ _ _ ((HR.out.below hv4 (Nat.le_refl _)).more hv4.size) hlen).mono ?_
  rintro e v5 ⟨rfl, hy, kv5⟩
  replace h0 := h0.below kv5 (by omega)
  replace hx := hx.below kv5 (by omega)
  replace hg := hg.below kv5 (by omega)
  have hv5 := below_next hv4 kv5
  have zv5 := kv5.size
  clear kv5 hv4
  go_wp2_with fail
  refine (eqS_any hx hy (by omega) (by omega) hlen).mono ?_
  rintro e v6 ⟨rfl, kv6⟩
  replace h0 := h0.below kv6 (by omega)
  replace hx := hx.below kv6 (by omega)
  replace hg := hg.below kv6 (by omega)
  replace hy := hy.below kv6 (by omega)
  have hv6 := below_next hv5 kv6
  have zv6 := kv6.size
  clear kv6 hv5
  clear hy
  go_wp2_with fail
  refine (mark_any hx hlen).mono ?_
  rintro e v7 ⟨rfl, hm, row, hgr, hrow⟩
  replace h0 := h0.kept hgr (fun g e => by have := hrow g e; omega)
  replace hg := hg.kept hgr (fun g e => by have := hrow g e; omega)
  replace hx := hm
  have hv7 : Below w.heap.size w v7 := hv6.grown hgr hv6.size (fun g e => by have := hrow g e; omega)
  have zv7 := hgr.size
  clear hgr hrow hm hv6
  clear hx
  go_wp2_with fail
  refine (eqS_any hg h0 (by omega) (by omega) hLl).mono ?_
  rintro e v8 ⟨rfl, kv8⟩
  replace h0 := h0.below kv8 (by omega)
  replace hg := hg.below kv8 (by omega)
  have hv8 := below_next hv7 kv8
  have zv8 := kv8.size
  clear kv8 hv7
  go_wp2_with fail
  refine (mark_any hg hLl).mono ?_
  rintro e v9 ⟨rfl, hm, row, hgr, hrow⟩
  replace h0 := h0.kept hgr (fun g e => by have := hrow g e; omega)
  replace hg := hm
  have hv9 : Below w.heap.size w v9 := hv8.grown hgr hv8.size (fun g e => by have := hrow g e; omega)
  have zv9 := hgr.size
  clear hgr hrow hm hv8
  go_wp2_with fail
  refine (held_any hg (by omega) hLl).mono ?_
  rintro e w' ⟨rfl, rfl⟩
  go_wp2_with fail
  refine (toI_any _ _ _ _ ((HR.out.below hv9 (Nat.le_refl _)).more hv9.size) hlen).mono ?_
  rintro e x2 ⟨rfl, hsl3, kx2⟩
  replace h0 := h0.below kx2 (by omega)
  replace hg := hg.below kx2 (by omega)
  have hx2 := below_next hv9 kx2
  have zx2 := kx2.size
  clear kx2 hv9
  go_wp2_with fail
  refine (repI5_any _ _ _ _ _ (sl_rd hsl3 (Nat.le_refl _)) (Nat.le_refl _) hlen).mono ?_
  rintro e x3 ⟨t0, he, ht, kx3⟩
  subst he
  replace h0 := h0.below kx3 (by omega)
  replace hg := hg.below kx3 (by omega)
  have hx3 := below_next hx2 kx3
  have zx3 := kx3.size
  clear kx3 hx2
  rw [← HLL.out] at ht
  go_wp2_with fail
  refine (eqS_any ht h0 (by omega) (by omega) hLl).mono ?_
  rintro e x4 ⟨rfl, kx4⟩
  replace h0 := h0.below kx4 (by omega)
  replace hg := hg.below kx4 (by omega)
  replace ht := ht.below kx4 (by omega)
  have hx4 := below_next hx3 kx4
  have zx4 := kx4.size
  clear kx4 hx3
  go_wp2_with fail
  refine (held_any hg (by omega) hLl).mono ?_
  rintro e w' ⟨rfl, rfl⟩
  go_wp2
  go_ret
  exact ⟨rfl, hx4⟩
end Go.Proofs.Ytfcnpbcnpielcaa.fnExactRepeatSample
