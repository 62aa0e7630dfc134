/- Weak contracts of the functions that draw a register beside bits. -/
import Derived.Test.YtmfblphnedoejaaDraw8
namespace Go.Proofs.Ytmfblphnedoejaa
set_option maxRecDepth 20000
open Go.ChangeShapes Go.WideShapes Go.ChangeAt Go.RowKit
set_option linter.unusedVariables false
set_option linter.unusedSimpArgs false

set_option maxHeartbeats 1000000 in
theorem l1Open_any (B g lim : Nat) (w : World) (hr : Rd w B g lim) (hlim : lim ≤ 900) :
    Calls Try.prog 83 #[.pointer (some ⟨g, 0, none⟩)] w fun e w' => ∃ z t s : Int, e = .returned (.agg #[.int .i64 z, .int .i64 t, .int .i64 s]) ∧ Rd w' B g (lim + 20) ∧ Keeps g w w' := by
  have hg := hr.lt
  go_enter Try.func83, Try.ntmps83
  go_wp2_with fail
  obtain ⟨W, hW⟩ : ∃ W, W = w.alloc (.cells #[.int .i64 0, .int .i64 0, .int .i64 0] 40) := ⟨_, rfl⟩
  have hb0 : Below w.heap.size w W := by rw [hW]; exact (Below.refl _ _).alloc (Nat.le_refl _) _
  have hY : Tri W w.heap.size 0 0 0 := by rw [hW]; exact Tri.box 0 0 0 _
  have hrW := hr.below hb0
  have hk := (Keeps.refl g w).step hb0 hg.2
  rw [← hW]
  clear hW hr hb0
  refine (some_any B g _ _ hrW (by omega)).mono ?_
  rintro e u1 ⟨z, t, s, rfl, hz, hr, hk1⟩
  replace hY := hY.keeps hk1 (by omega)
  replace hk := hk.trans hk1
  clear hk1 hrW
  go_wp2_with fail
  refine (bad_any B g _ _ _ _ _ hr (by omega) hz.1 hz.2).mono ?_
  rintro e u2 ⟨z', t', s', rfl, hr2, hk2⟩
  replace hY := hY.keeps hk2 (by omega)
  replace hk := hk.trans hk2
  clear hk2 hr
  have hbs : Below w.heap.size u2 (((u2.setCell ⟨w.heap.size, 0, none⟩ (.int .i64 z')).setCell ⟨w.heap.size, 1, none⟩ (.int .i64 t')).setCell ⟨w.heap.size, 2, none⟩ (.int .i64 s')) := tri_set _ _ _ _ _
  obtain ⟨d0, d1, d2, df, dl⟩ := hY
  have hR := (hr2.below' hbs hg.2)
  have hK := hk.step hbs hg.2
  clear hr2 hk hbs
  go_wp2
  exact bodyPost_ret (v := .agg #[.int .i64 z', .int .i64 t', .int .i64 s']) (by simp [results, Try.results83, go_sem, d0, d1, d2]) rfl ⟨_, _, _, rfl, hR.mono (by omega), hK⟩
set_option maxHeartbeats 1000000 in
theorem drawScram_any (a : Option Addr) (len cap : Nat) (zs : List Int) (w : World) (h : IsRow .u8 w a len cap zs) :
    Calls Try.prog 43 #[.slice a len cap] w fun e w' => ∃ (l : List UInt8) (z t s : Int), e = .returned (.tuple #[.string (str l), .agg #[.int .i64 z, .int .i64 t, .int .i64 s]]) ∧ l.length ≤ 2001 ∧ Below w.heap.size w w' := by
  go_enter Try.func43, Try.ntmps43
  go_wp2_with fail
  obtain ⟨W, hW⟩ : ∃ W, W = w.alloc (.cells #[.int .i64 0, .int .i64 0, .int .i64 0] 40) := ⟨_, rfl⟩
  have hb0 : Below w.heap.size w W := by rw [hW]; exact (Below.refl _ _).alloc (Nat.le_refl _) _
  have hWs : w.heap.size < W.heap.size := by rw [hW]; simp
  have hY : Tri W w.heap.size 0 0 0 := by rw [hW]; exact Tri.box 0 0 0 _
  have hrow : IsRow .u8 W a len cap zs := by
    rcases h with h | ⟨x, rfl, hlc, hcm, hz, hc, hw⟩
    · exact .inl h
    · refine .inr ⟨x, rfl, hlc, hcm, hz, fun i hi => ?_, hw⟩
      rw [hb0.cell (by rw [add_block]; exact rd_lt (hc i hi))]; exact hc i hi
  rw [← hW]
  clear hW h
  refine (open_any _ _ _ _ _ hrow).mono ?_
  rintro e w1 ⟨rfl, hr, hb⟩
  clear hrow
  have hg := hr.lt
  replace hY := hY.block (hb.block _ (by omega)) hb.size
  have hk := Keeps.refl W.heap.size w1
  have hbw : Below w.heap.size w w1 := hb0.trans (hb.mono (by omega))
  clear hb hb0
  go_wp2_with fail
  refine (l1String_any _ _ _ 30 _ hr (by omega) (by omega)).mono ?_
  rintro e u1 ⟨l, rfl, hl, hr', hk'⟩
  replace hk := hk.trans hk'
  clear hk' hr
  have hr := hr'
  clear hr'
  go_wp2_with fail
  refine (wild_any _ _ _ l _ hr (by omega) (by have := hl.1; omega)).mono ?_
  rintro e u2 ⟨l', rfl, hl2, hr', hk'⟩
  replace hk := hk.trans hk'
  clear hk' hr
  have hr := hr'
  clear hr'
  clear hl
  go_wp2_with fail
  refine (l1Open_any _ _ _ _ hr (by omega)).mono ?_
  rintro e u3 ⟨z, t, s, rfl, hr3, hk3⟩
  replace hk := hk.trans hk3
  replace hY := hY.keeps hk (by omega)
  have hbs : Below w.heap.size u3 (((u3.setCell ⟨w.heap.size, 0, none⟩ (.int .i64 z)).setCell ⟨w.heap.size, 1, none⟩ (.int .i64 t)).setCell ⟨w.heap.size, 2, none⟩ (.int .i64 s)) := tri_set _ _ _ _ _
  have hB := (hbw.trans (hk.below.mono (by omega))).trans hbs
  obtain ⟨d0, d1, d2, df, dl⟩ := hY
  clear hr hr3 hk hk3 hbw hbs
  go_wp2
  exact bodyPost_ret (v := .tuple #[.string (str l'), .agg #[.int .i64 z, .int .i64 t, .int .i64 s]]) (by simp [results, Try.results43, go_sem, d0, d1, d2]) rfl ⟨_, _, _, _, rfl, hl2, hB⟩
end Go.Proofs.Ytmfblphnedoejaa
