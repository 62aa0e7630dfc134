/- Weak contracts of the functions that draw users. -/
import Derived.Test.YtiiiaeemblcniaaDrawW
namespace Go.Proofs.Ytiiiaeemblcniaa
set_option maxRecDepth 20000
open Go.ChangeShapes Go.WideShapes Go.ChangeAt Go.RowKit
set_option linter.unusedVariables false
set_option linter.unusedSimpArgs false

/-- a box of four values -/
def Quad (u : World) (b : Nat) (x y z t : Value) : Prop :=
  u.cell? ⟨b, 0, none⟩ = some x ∧ u.cell? ⟨b, 1, none⟩ = some y ∧ u.cell? ⟨b, 2, none⟩ = some z ∧ u.cell? ⟨b, 3, none⟩ = some t ∧ (∀ i, u.frozen? ⟨b, i, none⟩ = false) ∧ b < u.heap.size
theorem Quad.block {u u' : World} {b : Nat} {x y z t : Value} (h : Quad u b x y z t) (hb : u'.heap[b]? = u.heap[b]?) (hs : u.heap.size ≤ u'.heap.size) : Quad u' b x y z t := by
  obtain ⟨h0, h1, h2, h3, h4, h5⟩ := h
  have c := fun i => cell_block (p := ⟨b, i, none⟩) hb
  exact ⟨(c 0).1.trans h0, (c 1).1.trans h1, (c 2).1.trans h2, (c 3).1.trans h3, fun i => (c i).2.trans (h4 i), by omega⟩
theorem Quad.keeps {u u' : World} {g b : Nat} {x y z t : Value} (h : Quad u b x y z t) (hk : Keeps g u u') (hne : b ≠ g) : Quad u' b x y z t := h.block (hk.other b hne h.2.2.2.2.2) hk.size
theorem Quad.box {u : World} (x y z t : Value) (e : TypeId) : Quad (u.alloc (.cells #[x, y, z, t] e)) u.heap.size x y z t := ⟨by simp, by simp, by simp, by simp, fun i => by simp, by simp⟩
theorem quad_set (u : World) {B b : Nat} (h : B ≤ b) (x y z t : Value) : Below B u ((((u.setCell ⟨b, 0, none⟩ x).setCell ⟨b, 1, none⟩ y).setCell ⟨b, 2, none⟩ z).setCell ⟨b, 3, none⟩ t) :=
  ((((Below.refl B u).setCell (p := ⟨b, 0, none⟩) h x).setCell (p := ⟨b, 1, none⟩) h y).setCell (p := ⟨b, 2, none⟩) h z).setCell (p := ⟨b, 3, none⟩) h t
set_option maxHeartbeats 2000000 in
theorem user_any (B g lim : Nat) (l : List UInt8) (w : World) (hr : Rd w B g lim) (hlim : lim ≤ 400000) :
    Calls Try.prog 70 #[.pointer (some ⟨g, 0, none⟩), .string (str l)] w fun e w' => ∃ (d : List UInt8) (a y : Nat), e = .returned (.agg #[.string (str l), .string (str d), .int .i64 (a : Int), .int .i64 (y : Int)]) ∧ (BitsN 8 d ∧ 1 ≤ a ∧ a ≤ 4 ∧ y ≤ 6) ∧ Rd w' B g (lim + 300) ∧ Keeps g w w' := by
  have hg := hr.lt
  go_enter Try.func70, Try.ntmps70
  go_wp2_with fail
  obtain ⟨W, hW⟩ : ∃ W, W = w.alloc (.cells #[.string ⟨#[]⟩, .string ⟨#[]⟩, .int .i64 0, .int .i64 0] 45) := ⟨_, rfl⟩
  have hb0 : Below w.heap.size w W := by rw [hW]; exact (Below.refl _ _).alloc (Nat.le_refl _) _
  have hY : Quad W w.heap.size (.string ⟨#[]⟩) (.string ⟨#[]⟩) (.int .i64 0) (.int .i64 0) := by rw [hW]; exact Quad.box _ _ _ _ _
  have hrW := hr.below hb0
  have hkW : Keeps g w W := (Keeps.refl g w).step hb0 hg.2
  have hne : w.heap.size ≠ g := by omega
  rw [← hW]
  clear hW hb0
  have hr := hrW
  have hk := Keeps.refl g W
  refine (l1String_any B g _ 8 _ hr (by omega) (by omega)).mono ?_
  rintro e u1 ⟨d, rfl, hd, hr1, hk1⟩
  replace hk := hk.trans hk1
  clear hr hrW hk1
  have hr := hr1
  clear hr1
  go_wp2_with fail
  refine (pick_any _ _ _ _ _ hr (by omega) (by omega) (by omega)).mono ?_
  rintro e u14 ⟨a, rfl, ha, hr', hk'⟩
  replace hk := hk.trans hk'
  clear hk' hr
  have hr := hr'
  clear hr'
  have ha2 : a < 4 := by have := ha.1 (by omega); omega
  clear ha
  go_wp2_with fail
  refine (pick_any _ _ _ _ _ hr (by omega) (by omega) (by omega)).mono ?_
  rintro e u15 ⟨x, rfl, hx, hr', hk'⟩
  replace hk := hk.trans hk'
  clear hk' hr
  have hr := hr'
  clear hr'
  have hx2 : x < 3 := by have := hx.1 (by omega); omega
  clear hx
  go_wp2_with fail
  refine (pick_any _ _ _ _ _ hr (by omega) (by omega) (by omega)).mono ?_
  rintro e u16 ⟨y, rfl, hy, hr', hk'⟩
  replace hk := hk.trans hk'
  clear hk' hr
  have hr := hr'
  clear hr'
  have hy2 : y < 4 := by have := hy.1 (by omega); omega
  clear hy
  obtain ⟨q, hq⟩ : ∃ q, q = x * y := ⟨_, rfl⟩
  have hq6 : q ≤ 2 * 3 := by rw [hq]; exact Nat.mul_le_mul (by omega) (by omega)
  have eq1 : (x : Int) * (y : Int) = (q : Int) := by rw [hq]; simp
  clear hq
  obtain ⟨d0, d1, d2, d3, df, dl⟩ := hY.keeps hk hne
  have HD := Lib.hid hd
  have HKW := Lib.hid hkW
  have HK := Lib.hid hk
  have HR := Lib.hid hr
  clear hd hkW hY hk hr
  go_wp2
  exact bodyPost_ret (v := .agg #[.string (str l), .string (str d), .int .i64 (1 + (a : Int)), .int .i64 (q : Int)]) (by simp [results, Try.results70, go_sem, d0, d1, d2, d3]) rfl ⟨d, 1 + a, q, by simp, ⟨HD.out, by omega, by omega, by omega⟩, (HR.out.below' (quad_set _ (Nat.le_refl w.heap.size) _ _ _ _) hg.2).mono (by omega), (HKW.out.trans HK.out).step (quad_set _ (Nat.le_refl w.heap.size) _ _ _ _) hg.2⟩
end Go.Proofs.Ytiiiaeemblcniaa
