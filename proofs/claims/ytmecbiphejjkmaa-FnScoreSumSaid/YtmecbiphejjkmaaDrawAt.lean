/- Weak contract of the function that draws a signal, a pilot and an offset. -/
import Derived.Test.YtmecbiphejjkmaaDrawH
namespace Go.Proofs.Ytmecbiphejjkmaa
set_option maxRecDepth 20000
open Go.ChangeShapes Go.WideShapes Go.ChangeAt Go.RowKit
set_option linter.unusedVariables false
set_option linter.unusedSimpArgs false

set_option maxHeartbeats 4000000 in
theorem drawAt_any (a : Option Addr) (len cap : Nat) (zs : List Int) (w : World) (h : IsRow .u8 w a len cap zs) :
    Calls Try.prog 17 #[.slice a len cap] w fun e w' => ∃ (v : Value) (z : List Int) (l : List UInt8) (m x : Int), e = .returned (.tuple #[v, .agg #[.string (str l), .int .i64 m], .int .i64 x]) ∧ (l.length ≤ 2001 ∧ -1 ≤ m ∧ m ≤ 9) ∧ (-1 ≤ x ∧ x ≤ 9223372036854775807) ∧ (Sl w' w.heap.size w'.heap.size v z ∧ z.length ≤ 10001) ∧ Below w.heap.size w w' := by
  go_enter Try.func17, Try.ntmps17
  go_wp2_with fail
  obtain ⟨W, hW⟩ : ∃ W, W = w.alloc (.cells #[.string ⟨#[]⟩, .int .i64 0] 25) := ⟨_, rfl⟩
  have hb0 : Below w.heap.size w W := by rw [hW]; exact (Below.refl _ _).alloc (Nat.le_refl _) _
  have hWs : w.heap.size < W.heap.size := by rw [hW]; simp
  have hY : Two W w.heap.size (.string ⟨#[]⟩) (.int .i64 0) := by rw [hW]; exact Two.box _ _ _
  have hrow := row_below' h hb0
  rw [← hW]
  clear hW h
  refine (open_any _ _ _ _ _ hrow).mono ?_
  rintro e w1 ⟨rfl, hr, hb⟩
  clear hrow
  have hg := hr.lt
  replace hY := hY.block (hb.block _ (by omega)) hb.size
  have hk := Keeps.refl W.heap.size w1
  have hbw : Below w.heap.size w w1 := hb0.trans (hb.mono (by omega))
  clear hb hb0
  go_wp2_with fail
  refine (heard_any _ _ _ _ hr (by omega)).mono ?_
  rintro e u1 ⟨v, z, l, m, off, rfl, ⟨hp, hl2, hl15, hm1, hm6⟩, hoff, ⟨hsl, hz⟩, hr1, hk1⟩
  have hoff2 : off ≤ 3000 := by have h := Nat.mul_le_mul hl15 hm6; omega
  replace hY := hY.keeps hk1 (by omega)
  replace hk := hk.trans hk1
  have hs1 := hk.size
  clear hr hk1
  obtain ⟨V, hV⟩ : ∃ V, V = u1.alloc (.cells #[.string (str l), .int .i64 (m : Int)] 25) := ⟨_, rfl⟩
  have hX : Two V u1.heap.size (.string (str l)) (.int .i64 (m : Int)) := by rw [hV]; exact Two.box _ _ _
  have hYV : Two V w.heap.size (.string ⟨#[]⟩) (.int .i64 0) := by rw [hV]; exact hY.alloc _
  have hkV : Keeps W.heap.size w1 V := by rw [hV]; exact hk.after ((Below.refl _ _).alloc (Nat.le_refl _) _)
  have hk1V : Keeps W.heap.size u1 V := by rw [hV]; exact Keeps.of_below (by omega) ((Below.refl _ _).alloc (Nat.le_refl _) _)
  have hslV : Sl V w1.heap.size V.heap.size v z := (hsl.keeps hk1V (by omega)).up hk1V.size
  have hrV : Rd V W.heap.size W.heap.size (0 + 500) := by rw [hV]; exact hr1.alloc _
  have HX := Lib.hid hX
  have HY := Lib.hid hYV
  have HP := Lib.hid hp
  have HS := Lib.hid hslV
  clear hX hYV hY hk hr1 hp hsl hslV hk1V
  go_wp2_with fail
  rw [← hV]
  clear hV
  refine (near_any _ _ _ l m off _ hrV (by omega) HP.out (by omega) (by omega) hoff2).mono ?_
  rintro e u2 ⟨x, rfl, hx, hr2, hk2⟩
  have hX := HX.out.keeps hk2 (by omega)
  have HK2 := Lib.hid hk2
  obtain ⟨c0, c1, cf, cl⟩ := hX
  clear hk2
  go_wp2_with fail
  refine (l5Bad_any _ _ _ l m _ hr2 (by omega) (by omega) (by omega)).mono ?_
  rintro e u4 ⟨l', n', rfl, hn', hr4, hk4⟩
  have hk24 := HK2.out.trans hk4
  have hY := HY.out.keeps hk24 (by omega)
  have hsl4 := (HS.out.keeps hk24 (by omega)).up hk24.size
  have HSF := Lib.hid ((hsl4.set2 (b := w.heap.size) (x := .string (str l')) (y := .int .i64 n') (by have := hbw.size; omega)).mono (show w.heap.size ≤ w1.heap.size from hbw.size) (show u4.heap.size ≤ ((u4.setCell ⟨w.heap.size, 0, none⟩ (.string (str l'))).setCell ⟨w.heap.size, 1, none⟩ (.int .i64 n')).heap.size by simp))
  clear c0 c1 cf cl hk4 hr2 hsl4
  have hB := (hbw.trans ((hkV.trans hk24).below.mono (by omega))).trans (two_set u4 (Nat.le_refl w.heap.size) (.string (str l')) (.int .i64 n'))
  obtain ⟨d0, d1, df, dl⟩ := hY
  clear hr4 hk24 hbw hkV
  go_wp2
  exact bodyPost_ret (v := .tuple #[v, .agg #[.string (str l'), .int .i64 n'], .int .i64 x]) (by simp [results, Try.results17, go_sem, d0, d1]) rfl ⟨v, z, _, _, _, rfl, hn', hx, ⟨HSF.out, hz⟩, hB⟩
end Go.Proofs.Ytmecbiphejjkmaa
