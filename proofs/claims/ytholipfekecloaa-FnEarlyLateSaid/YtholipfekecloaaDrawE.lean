/- Weak contract of the function that draws the arguments of EarlyLate. -/
import Derived.Test.YtholipfekecloaaDrawAt
namespace Go.Proofs.Ytholipfekecloaa
set_option maxRecDepth 20000
open Go.ChangeShapes Go.WideShapes Go.ChangeAt Go.RowKit
set_option linter.unusedVariables false
set_option linter.unusedSimpArgs false

set_option maxHeartbeats 4000000 in
theorem drawEl_any (a : Option Addr) (len cap : Nat) (zs : List Int) (w : World) (h : IsRow .u8 w a len cap zs) :
    Calls Try.prog 27 #[.slice a len cap] w fun e w' => ∃ (v : Value) (z : List Int) (l : List UInt8) (m x : Int), e = .returned (.tuple #[v, .agg #[.string (str l), .int .i64 m], .int .i64 x]) ∧ (l.length ≤ 2001 ∧ -1 ≤ m ∧ m ≤ 9) ∧ (-1 ≤ x ∧ x ≤ 9223372036854775807) ∧ (Sl w' w.heap.size w'.heap.size v z ∧ z.length ≤ 10001) ∧ Below w.heap.size w w' := by
  go_enter Try.func27, Try.ntmps27
  go_wp2_with fail
  obtain ⟨W, hW⟩ : ∃ W, W = w.alloc (.cells #[.string ⟨#[]⟩, .int .i64 0] 24) := ⟨_, rfl⟩
  have hb0 : Below w.heap.size w W := by rw [hW]; exact (Below.refl _ _).alloc (Nat.le_refl _) _
  have hWs : w.heap.size < W.heap.size := by rw [hW]; simp
  have hY : Two W w.heap.size (.string ⟨#[]⟩) (.int .i64 0) := by rw [hW]; exact Two.box _ _ _
  have hrow := row_below' h hb0
  rw [← hW]
  clear hW h
  refine (drawAt_any _ _ _ _ _ hrow).mono ?_
  rintro e u4 ⟨v, z, l', n', x, rfl, hn', hx, ⟨hsl, hz⟩, hb⟩
  replace hY := hY.block (hb.block _ (by omega)) hb.size
  have HSF := Lib.hid ((hsl.set2 (b := w.heap.size) (x := .string (str l')) (y := .int .i64 n') hWs).mono (show w.heap.size ≤ W.heap.size by omega) (show u4.heap.size ≤ ((u4.setCell ⟨w.heap.size, 0, none⟩ (.string (str l'))).setCell ⟨w.heap.size, 1, none⟩ (.int .i64 n')).heap.size by simp))
  have hB := (hb0.trans (hb.mono (by omega))).trans (two_set u4 (Nat.le_refl w.heap.size) (.string (str l')) (.int .i64 n'))
  obtain ⟨d0, d1, df, dl⟩ := hY
  clear hb hb0 hrow hsl
  go_wp2
  exact bodyPost_ret (v := .tuple #[v, .agg #[.string (str l'), .int .i64 n'], .int .i64 x]) (by simp [results, Try.results27, go_sem, d0, d1]) rfl ⟨v, z, _, _, _, rfl, hn', hx, ⟨HSF.out, hz⟩, hB⟩
end Go.Proofs.Ytholipfekecloaa
