/- The walk of the law FnExactTrackPath. -/
import Derived.Test.YtcekjffkjhlieaaPath
namespace Go.Proofs.Ytcekjffkjhlieaa.fnExactTrackPath
open Go.ChangeShapes Go.WideShapes Go.ChangeAt Go.RowKit
set_option linter.unusedVariables false
set_option linter.unusedSimpArgs false

set_option maxHeartbeats 4000000 in
theorem walk (a0 : Option Addr) (len0 cap0 : Nat) (z0 : List Int) (s1 : ByteArray) (n1 : Int) (n2 : Int) (n3 : Int) (w : World) (hw0 : IsRow .i64 w a0 len0 cap0 z0) (hs1 : s1.size ≤ maxLen) (hn1 : (Lit.int .i64 n1).wf = true) (hn2 : (Lit.int .i64 n2).wf = true) (hn3 : (Lit.int .i64 n3).wf = true) :
    Calls Try.prog 13 #[.slice a0 len0 cap0, .agg #[.string s1, .int .i64 n1], .int .i64 n2, .int .i64 n3] w fun e w' => e = .returned (.bool true) ∧ Below w.heap.size w w' := by
  obtain ⟨bn2a, bn2b⟩ := wf_i64 hn2
  obtain ⟨bn3a, bn3b⟩ := wf_i64 hn3
  obtain ⟨z, rfl, hr, hzm⟩ := isRow_reads hw0
  clear hw0
  unfold maxLen at hzm
  have HR := Lib.hid hr
  clear hr
  by_cases hlen : z.length ≤ 1048576
  rotate_left
  · go_enter Try.func13, Try.ntmps13
    go_wp2
    go_ret
    exact ⟨rfl, (Below.refl _ _).alloc (Nat.le_refl _) _⟩
  have hs1' := hs1
  unfold maxLen at hs1'
  by_cases h : 1048576 - (s1.size : Int) < 0
  · have hl := leftOf_neg h
    go_enter Try.func13, Try.ntmps13
    have hb := Below.refl (w.alloc (.cells #[.string s1, .int .i64 n1] 23)).heap.size (w.alloc (.cells #[.string s1, .int .i64 n1] 23))
    go_wp2_with fail
    refine (szPilot_any _ _ _ _ hs1 (by omega) (by omega)).mono ?_
    rintro e w1 ⟨rfl, k⟩
    replace hb := below_next hb k
    clear k
    (try clear hc hf)
    obtain ⟨hc, hf⟩ := bcell hb
    go_wp2
    go_ret
    exact ⟨rfl, below_out hb⟩
  have hl := leftOf_pos h
  obtain ⟨L, hL⟩ : ∃ L : List Int, L = pathL z s1 n1 n2 n3 := ⟨_, rfl⟩
  have hLl : L.length ≤ 1048576 := by rw [hL]; exact Nat.le_trans (pathL_len _ _ _ _ _) (by omega)
  have HLL := Lib.hid hL
  clear hL
  go_enter Try.func13, Try.ntmps13
  have hb := Below.refl (w.alloc (.cells #[.string s1, .int .i64 n1] 23)).heap.size (w.alloc (.cells #[.string s1, .int .i64 n1] 23))
  go_wp2_with fail
  refine (szPilot_any _ _ _ _ hs1 (by omega) (by omega)).mono ?_
  rintro e w1 ⟨rfl, k⟩
  replace hb := below_next hb k
  clear k
  (try clear hc hf)
  obtain ⟨hc, hf⟩ := bcell hb
  go_wp2
  clear hc hf
  go_region_held3 (fun u => u.cell? ⟨w.heap.size, 0, none⟩ = some (.string s1) ∧ u.cell? ⟨w.heap.size, 1, none⟩ = some (.int .i64 n1)) (exact lcells (w := w) (t := 23) (by first | assumption | exact Below.drew (by assumption))) (first | (go_at_call 22; refine (toI_any _ _ _ _ (reads_up (o := .cells #[.string s1, .int .i64 n1] 23) HR.out (by first | assumption | exact Below.drew (by assumption))) hlen).mono ?_; rintro e u1 ⟨rfl, hsl, k1⟩; have hu1 := below_next (a := (w.alloc (.cells #[.string s1, .int .i64 n1] 23))) (by first | assumption | exact Below.drew (by assumption)) k1; have z1 := k1.size) | (go_at_call 16; refine (toPilot_any _ _ _).mono ?_; rintro e u2 ⟨rfl, k2⟩; have hu2 := below_next hu1 k2; have hsl2 := hsl.below k2 (Nat.le_refl _); have z2 := k2.size) | (go_at_call 40; refine (pathS_any _ _ _ _ _ _ _ _ (sl_rd hsl2 k2.size) hlen hs1).mono ?_; rintro e u3 ⟨v0, he, h0, k3⟩; subst he; have hu3 := below_next hu2 k3; have z3 := k3.size))
  clear hsl hsl2 k1 k2 k3 hu1 hu2 hb
  rw [← HLL.out] at h0
  have zw := hu3.size
  obtain ⟨hc, hf⟩ := bcell hu3
  go_wp2_with fail
  refine (toI_any _ _ _ _ (reads_up HR.out hu3) hlen).mono ?_
  rintro e v1 ⟨rfl, hx, kx⟩
  replace h0 := h0.below kx (by omega)
  have hv1 := below_next hu3 kx
  have zv1 := kx.size
  clear kx hc hf hu3
  obtain ⟨hc, hf⟩ := bcell hv1
  go_wp2_with fail
  refine (toPilot_any _ _ _).mono ?_
  rintro e v2 ⟨rfl, ky⟩
  replace h0 := h0.below ky (by omega)
  replace hx := hx.below ky (by omega)
  have hv2 := below_next hv1 ky
  have zv2 := ky.size
  clear ky hc hf hv1
  obtain ⟨hc, hf⟩ := bcell hv2
  go_wp2_with fail
  refine (pathI_any _ _ _ _ _ _ _ _ (sl_rd hx (by omega)) hlen hs1).mono ?_
  rintro e v3 ⟨g0, he, hg, kz⟩
  subst he
  rw [← HLL.out] at hg
  replace h0 := h0.below kz (by omega)
  replace hx := hx.below kz (by omega)
  have hv3 := below_next hv2 kz
  have zv3 := kz.size
  clear kz hc hf hv2
  obtain ⟨hc, hf⟩ := bcell hv3
  go_wp2_with fail
  refine (eqS_any hg h0 (by omega) (by omega) hLl).mono ?_
  rintro e v4 ⟨rfl, kv4⟩
  replace h0 := h0.below kv4 (by omega)
  replace hx := hx.below kv4 (by omega)
  replace hg := hg.below kv4 (by omega)
  have hv4 := below_next hv3 kv4
  have zv4 := kv4.size
  clear kv4 hc hf hv3
  obtain ⟨hc, hf⟩ := bcell hv4
  go_wp2_with fail
  refine (toI_any _ _ _ _ (reads_up HR.out hv4) hlen).mono ?_
  rintro e v5 ⟨rfl, hy, kv5⟩
  replace h0 := h0.below kv5 (by omega)
  replace hx := hx.below kv5 (by omega)
  replace hg := hg.below kv5 (by omega)
  have hv5 := below_next hv4 kv5
  have zv5 := kv5.size
  clear kv5 hc hf hv4
  obtain ⟨hc, hf⟩ := bcell hv5
  go_wp2_with fail
  refine (eqS_any hx hy (by omega) (by omega) hlen).mono ?_
  rintro e v6 ⟨rfl, kv6⟩
  replace h0 := h0.below kv6 (by omega)
  replace hx := hx.below kv6 (by omega)
  replace hg := hg.below kv6 (by omega)
  replace hy := hy.below kv6 (by omega)
  have hv6 := below_next hv5 kv6
  have zv6 := kv6.size
  clear kv6 hc hf hv5
  obtain ⟨hc, hf⟩ := bcell hv6
  clear hy
  go_wp2_with fail
  refine (mark_any hx hlen).mono ?_
  rintro e v7 ⟨rfl, hm, row, hgr, hrow⟩
  replace h0 := h0.kept hgr (fun g e => by have := hrow g e; omega)
  replace hg := hg.kept hgr (fun g e => by have := hrow g e; omega)
  replace hx := hm
  have hv7 : Below (w.alloc (.cells #[.string s1, .int .i64 n1] 23)).heap.size (w.alloc (.cells #[.string s1, .int .i64 n1] 23)) v7 := hv6.grown hgr hv6.size (fun g e => by have := hrow g e; omega)
  have zv7 := hgr.size
  clear hgr hrow hm hc hf hv6
  obtain ⟨hc, hf⟩ := bcell hv7
  clear hx
  go_wp2_with fail
  refine (eqS_any hg h0 (by omega) (by omega) hLl).mono ?_
  rintro e v8 ⟨rfl, kv8⟩
  replace h0 := h0.below kv8 (by omega)
  replace hg := hg.below kv8 (by omega)
  have hv8 := below_next hv7 kv8
  have zv8 := kv8.size
  clear kv8 hc hf hv7
  obtain ⟨hc, hf⟩ := bcell hv8
  go_wp2_with fail
  refine (mark_any hg hLl).mono ?_
  rintro e v9 ⟨rfl, hm, row, hgr, hrow⟩
  replace h0 := h0.kept hgr (fun g e => by have := hrow g e; omega)
  replace hg := hm
  have hv9 : Below (w.alloc (.cells #[.string s1, .int .i64 n1] 23)).heap.size (w.alloc (.cells #[.string s1, .int .i64 n1] 23)) v9 := hv8.grown hgr hv8.size (fun g e => by have := hrow g e; omega)
  have zv9 := hgr.size
  clear hgr hrow hm hc hf hv8
  obtain ⟨hc, hf⟩ := bcell hv9
  go_wp2_with fail
  refine (held_any hg (by omega) hLl).mono ?_
  rintro e w' ⟨rfl, rfl⟩
  go_wp2
  clear hc hf
  go_region_held3 (fun u => u.cell? ⟨w.heap.size, 0, none⟩ = some (.string s1) ∧ u.cell? ⟨w.heap.size, 1, none⟩ = some (.int .i64 n1)) (exact lcells (w := w) (t := 23) (by first | assumption | exact Below.drew (by assumption))) (first | (go_at_call 22; refine (toI_any _ _ _ _ (reads_up (o := .cells #[.string s1, .int .i64 n1] 23) HR.out (by first | assumption | exact Below.drew (by assumption))) hlen).mono ?_; rintro e x1 ⟨rfl, hsl, k1⟩; have hx1 := below_next (a := (w.alloc (.cells #[.string s1, .int .i64 n1] 23))) (by first | assumption | exact Below.drew (by assumption)) k1; have y1 := k1.size) | (go_at_call 16; refine (toPilot_any _ _ _).mono ?_; rintro e x2 ⟨rfl, k2⟩; have hx2 := below_next hx1 k2; have hsl2 := hsl.below k2 (Nat.le_refl _); have y2 := k2.size) | (go_at_call 41; refine (pathI_any _ _ _ _ _ _ _ _ (sl_rd hsl2 k2.size) hlen hs1).mono ?_; rintro e x3 ⟨t0, he, ht, k3⟩; subst he; have hx3 := below_next hx2 k3; have y3 := k3.size))
  replace h0 := ((h0.below (Below.drew (Below.refl _ _)) (by omega)).below k1 (by simp; omega)).below k2 (by simp at y1; omega)
  replace h0 := h0.below k3 (by simp at y1; omega)
  replace hg := ((hg.below (Below.drew (Below.refl _ _)) (by omega)).below k1 (by simp; omega)).below k2 (by simp at y1; omega)
  replace hg := hg.below k3 (by simp at y1; omega)
  simp at y1
  clear hsl hsl2 k1 k2 k3 hx1 hx2 hv9
  obtain ⟨hc, hf⟩ := bcell hx3
  rw [← HLL.out] at ht
  go_wp2_with fail
  refine (eqS_any ht h0 (by omega) (by omega) hLl).mono ?_
  rintro e x4 ⟨rfl, kx4⟩
  replace h0 := h0.below kx4 (by omega)
  replace hg := hg.below kx4 (by omega)
  replace ht := ht.below kx4 (by omega)
  have hx4 := below_next hx3 kx4
  have zx4 := kx4.size
  clear kx4 hc hf hx3
  obtain ⟨hc, hf⟩ := bcell hx4
  go_wp2_with fail
  refine (held_any hg (by omega) hLl).mono ?_
  rintro e w' ⟨rfl, rfl⟩
  go_wp2
  go_ret
  exact ⟨rfl, below_out hx4⟩
end Go.Proofs.Ytcekjffkjhlieaa.fnExactTrackPath
