/- Weak contract of the function that draws a pilot and two offsets. -/
import Derived.Test.YtholipfekecloaaDrawQ
namespace Go.Proofs.Ytholipfekecloaa
set_option maxRecDepth 20000
open Go.ChangeShapes Go.WideShapes Go.ChangeAt Go.RowKit
set_option linter.unusedVariables false
set_option linter.unusedSimpArgs false

theorem row_below' {w w' : World} {k : IntKind} {a : Option Addr} {len cap : Nat} {zs : List Int} (h : IsRow k w a len cap zs) (hb : Below w.heap.size w w') : IsRow k w' a len cap zs := by
  rcases h with h | ⟨x, rfl, hlc, hcm, hz, hc, hw⟩
  · exact .inl h
  · exact .inr ⟨x, rfl, hlc, hcm, hz, fun i hi => by rw [hb.cell (by rw [add_block]; exact rd_lt (hc i hi))]; exact hc i hi, hw⟩
set_option maxHeartbeats 4000000 in
theorem drawDist_any (a : Option Addr) (len cap : Nat) (zs : List Int) (w : World) (h : IsRow .u8 w a len cap zs) :
    Calls Try.prog 10 #[.slice a len cap] w fun e w' => ∃ (l : List UInt8) (m x y : Int), e = .returned (.tuple #[.agg #[.string (str l), .int .i64 m], .int .i64 x, .int .i64 y]) ∧ (l.length ≤ 2001 ∧ -1 ≤ m ∧ m ≤ 9) ∧ (-1 ≤ x ∧ x ≤ 9223372036854775807) ∧ (-1 ≤ y ∧ y ≤ 9223372036854775807) ∧ Below w.heap.size w w' := by
  go_enter Try.func10, Try.ntmps10
  go_wp2_with fail
  obtain ⟨W, hW⟩ : ∃ W, W = w.alloc (.cells #[.string ⟨#[]⟩, .int .i64 0] 24) := ⟨_, rfl⟩
  have hb0 : Below w.heap.size w W := by rw [hW]; exact (Below.refl _ _).alloc (Nat.le_refl _) _
  have hWs : w.heap.size < W.heap.size := by rw [hW]; simp
  have hY : Two W w.heap.size (.string ⟨#[]⟩) (.int .i64 0) := by rw [hW]; exact Two.box _ _ _
  have hrow := row_below' h hb0
  rw [← hW]
  clear hW h
  refine (open_any _ _ _ _ _ hrow).mono ?_
  rintro e w1 ⟨rfl, hr, hb⟩
  clear hrow
  have hg := hr.lt
  replace hY := hY.block (hb.block _ (by omega)) hb.size
  have hk := Keeps.refl W.heap.size w1
  have hbw : Below w.heap.size w w1 := hb0.trans (hb.mono (by omega))
  clear hb hb0
  go_wp2_with fail
  refine (pilot_any _ _ _ _ hr (by omega)).mono ?_
  rintro e u1 ⟨l, m, rfl, ⟨hp, hl2, hl15, hm1, hm6⟩, hr1, hk1⟩
  replace hY := hY.keeps hk1 (by omega)
  replace hk := hk.trans hk1
  have hs1 := hk.size
  clear hr hk1
  obtain ⟨V, hV⟩ : ∃ V, V = u1.alloc (.cells #[.string (str l), .int .i64 (m : Int)] 24) := ⟨_, rfl⟩
  have hX : Two V u1.heap.size (.string (str l)) (.int .i64 (m : Int)) := by rw [hV]; exact Two.box _ _ _
  have hYV : Two V w.heap.size (.string ⟨#[]⟩) (.int .i64 0) := by rw [hV]; exact hY.alloc _
  have hkV : Keeps W.heap.size w1 V := by rw [hV]; exact hk.after ((Below.refl _ _).alloc (Nat.le_refl _) _)
  have hrV : Rd V W.heap.size W.heap.size (0 + 300) := by rw [hV]; exact hr1.alloc _
  have HX := Lib.hid hX
  have HY := Lib.hid hYV
  have HP := Lib.hid hp
  clear hX hYV hY hk hr1 hp
  go_wp2_with fail
  rw [← hV]
  clear hV
  refine (near_any _ _ _ l m 0 _ hrV (by omega) HP.out (by omega) (by omega) (by omega)).mono ?_
  rintro e u2 ⟨x, rfl, hx, hr2, hk2⟩
  have hX := HX.out.keeps hk2 (by omega)
  have HK2 := Lib.hid hk2
  obtain ⟨c0, c1, cf, cl⟩ := hX
  clear hk2
  go_wp2_with fail
  refine (near_any _ _ _ l m 5 _ hr2 (by omega) HP.out (by omega) (by omega) (by omega)).mono ?_
  rintro e u3 ⟨y, rfl, hy, hr3, hk3⟩
  have hk23 := HK2.out.trans hk3
  have hX := HX.out.keeps hk23 (by omega)
  clear c0 c1 cf cl hk3 hr2
  obtain ⟨c0, c1, cf, cl⟩ := hX
  have HK3 := Lib.hid hk23
  clear hk23
  go_wp2_with fail
  refine (l5Bad_any _ _ _ l m _ hr3 (by omega) (by omega) (by omega)).mono ?_
  rintro e u4 ⟨l', n', rfl, hn', hr4, hk4⟩
  have hk24 := HK3.out.trans hk4
  have hX := HX.out.keeps hk24 (by omega)
  have hY := HY.out.keeps hk24 (by omega)
  clear c0 c1 cf cl hk4 hr3
  have hB := (hbw.trans ((hkV.trans hk24).below.mono (by omega))).trans (two_set u4 (Nat.le_refl w.heap.size) (.string (str l')) (.int .i64 n'))
  obtain ⟨d0, d1, df, dl⟩ := hY
  clear hr4 hk24 hbw hkV
  go_wp2
  exact bodyPost_ret (v := .tuple #[.agg #[.string (str l'), .int .i64 n'], .int .i64 x, .int .i64 y]) (by simp [results, Try.results10, go_sem, d0, d1]) rfl ⟨_, _, _, _, rfl, hn', hx, hy, hB⟩
end Go.Proofs.Ytholipfekecloaa
