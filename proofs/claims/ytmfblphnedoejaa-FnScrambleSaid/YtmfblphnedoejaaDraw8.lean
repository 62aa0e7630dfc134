/- Weak contracts of the functions that draw registers. -/
import Derived.Test.YtmfblphnedoejaaDraw4
import Derived.Test.YtmfblphnedoejaaReg
namespace Go.Proofs.Ytmfblphnedoejaa
set_option maxRecDepth 20000
open Go.ChangeShapes Go.WideShapes Go.ChangeAt Go.RowKit
set_option linter.unusedVariables false
set_option linter.unusedSimpArgs false

/-- three numbers lie in block b, and may be written -/
def Tri (u : World) (b : Nat) (z t s : Int) : Prop :=
  u.cell? ⟨b, 0, none⟩ = some (.int .i64 z) ∧ u.cell? ⟨b, 1, none⟩ = some (.int .i64 t) ∧ u.cell? ⟨b, 2, none⟩ = some (.int .i64 s) ∧ (∀ i, u.frozen? ⟨b, i, none⟩ = false) ∧ b < u.heap.size
theorem Tri.block {u u' : World} {b : Nat} {z t s : Int} (h : Tri u b z t s) (hb : u'.heap[b]? = u.heap[b]?) (hs : u.heap.size ≤ u'.heap.size) : Tri u' b z t s := by
  obtain ⟨h0, h1, h2, h3, h4⟩ := h
  have c := fun i => cell_block (p := ⟨b, i, none⟩) hb
  exact ⟨(c 0).1.trans h0, (c 1).1.trans h1, (c 2).1.trans h2, fun i => (c i).2.trans (h3 i), by omega⟩
theorem Tri.keeps {u u' : World} {g b : Nat} {z t s : Int} (h : Tri u b z t s) (hk : Keeps g u u') (hne : b ≠ g) : Tri u' b z t s := h.block (hk.other b hne h.2.2.2.2) hk.size
theorem Tri.alloc {u : World} {b : Nat} {z t s : Int} (h : Tri u b z t s) (o : Obj) : Tri (u.alloc o) b z t s := h.block (Below.heap_alloc _ _ _ h.2.2.2.2) (by simp)
theorem Tri.other {u : World} {b : Nat} {z t s : Int} (h : Tri u b z t s) {p : Addr} (hp : p.block ≠ b) (v : Value) : Tri (u.setCell p v) b z t s := by
  obtain ⟨h0, h1, h2, h3, h4⟩ := h
  have hne : ∀ i, p ≠ (⟨b, i, none⟩ : Addr) := fun i e => hp (by rw [e])
  exact ⟨(World.cell?_setCell_other _ _ _ _ (hne 0)).trans h0, (World.cell?_setCell_other _ _ _ _ (hne 1)).trans h1, (World.cell?_setCell_other _ _ _ _ (hne 2)).trans h2, fun i => by rw [World.frozen?_setCell]; exact h3 i, by simpa using h4⟩
theorem Tri.box {u : World} (z t s : Int) (e : TypeId) : Tri (u.alloc (.cells #[.int .i64 z, .int .i64 t, .int .i64 s] e)) u.heap.size z t s := ⟨by simp, by simp, by simp, fun i => by simp, by simp⟩
theorem tri_set (u : World) (b : Nat) (x y z : Value) : Below b u (((u.setCell ⟨b, 0, none⟩ x).setCell ⟨b, 1, none⟩ y).setCell ⟨b, 2, none⟩ z) :=
  (((Below.refl b u).setCell (p := ⟨b, 0, none⟩) (Nat.le_refl b) x).setCell (p := ⟨b, 1, none⟩) (Nat.le_refl b) y).setCell (p := ⟨b, 2, none⟩) (Nat.le_refl b) z
set_option maxHeartbeats 4000000 in
theorem some_any (B g lim : Nat) (w : World) (hr : Rd w B g lim) (hlim : lim ≤ 1000) :
    Calls Try.prog 103 #[.pointer (some ⟨g, 0, none⟩)] w fun e w' => ∃ z t s : Int, e = .returned (.agg #[.int .i64 z, .int .i64 t, .int .i64 s]) ∧ (2 ≤ z ∧ z ≤ 8) ∧ Rd w' B g (lim + 10) ∧ Keeps g w w' := by
  have hg := hr.lt
  have hT := Tri.box (u := w) 0 0 0 40
  have hk : Keeps g w (w.alloc (.cells #[.int .i64 0, .int .i64 0, .int .i64 0] 40)) := (Keeps.refl g w).step ((Below.refl _ _).alloc (Nat.le_refl _) _) hg.2
  go_enter Try.func103, Try.ntmps103
  go_wp2_with fail
  obtain ⟨W, hW⟩ : ∃ W, W = w.alloc (.cells #[.int .i64 0, .int .i64 0, .int .i64 0] 40) := ⟨_, rfl⟩
  have hWs : W.heap.size = w.heap.size + 1 := by rw [hW]; simp
  have hrW : Rd W B g lim := by rw [hW]; exact hr.alloc _
  rw [← hW] at hT hk
  rw [← hW, ← hWs]
  have HT := Lib.hid hT
  have HK := Lib.hid hk
  clear hT hk hW hr
  refine (num_lit B g _ [3, 4, 5, 2, 6, 7, 8] _ _ _ hrW (by omega) rfl (by simp) (by simp)).mono ?_
  rintro e u1 ⟨n, hn, rfl, hr1, hk1⟩
  obtain ⟨j, rfl, hj⟩ : ∃ j : Nat, n = (j : Int) + 2 ∧ j ≤ 6 := by
    refine ⟨(n - 2).toNat, ?_, ?_⟩ <;> (simp at hn; omega)
  have hT := HT.out.keeps hk1 (by omega)
  have hk := HK.out.trans hk1
  clear hn hk1 HT HK hrW
  have H2 : Hid (∀ u : World, Calls Try.prog 107 #[.int .i64 ((j : Int) + 2)] u fun e w' => e = .returned (.int .i64 ((2 ^ (j + 2) : Nat) : Int)) ∧ u = w') := Lib.hid fun u => two_any (j + 2) u (by omega)
  obtain ⟨P, hP, hP1, hP2⟩ : ∃ P : Nat, P = 2 ^ (j + 2) ∧ 4 ≤ P ∧ P ≤ 256 := ⟨_, rfl, Nat.pow_le_pow_right (show 0 < 2 by omega) (show 2 ≤ j + 2 by omega), Nat.pow_le_pow_right (show 0 < 2 by omega) (show j + 2 ≤ 8 by omega)⟩
  rw [← hP] at H2
  clear hP
  go_wp2_with fail
  refine (H2.out _).mono ?_
  rintro e w' ⟨rfl, rfl⟩
  go_wp2_with fail
  refine (pick_any B g _ _ _ hr1 (by omega) (by omega) (by omega)).mono ?_
  rintro e u2 ⟨k, rfl, hx, hr2, hk2⟩
  have hkl : k < 256 := by have := hx.1 (by omega); omega
  replace hT := hT.keeps hk2 (by omega)
  replace hk := hk.trans hk2
  clear hx hk2 hr1
  go_wp2_with fail
  refine (pick_any B g _ _ _ hr2 (by omega) (by omega) (by omega)).mono ?_
  rintro e u3 ⟨i, rfl, hx, hr3, hk3⟩
  replace hT := hT.keeps hk3 (by omega)
  replace hk := hk.trans hk3
  clear hx hk3 hr2
  by_cases h0 : i = 0
  · subst h0
    have hcell : (u3.alloc (.cells #[.int .i64 3, .int .i64 3, .int .i64 3, .int .i64 5, .int .i64 3, .int .i64 3, .int .i64 29] 3)).cell? ⟨u3.heap.size, j, none⟩ = some (.int .i64 ([3, 3, 3, 5, 3, 3, 29].getD j 0)) := by
      rcases (show j = 0 ∨ j = 1 ∨ j = 2 ∨ j = 3 ∨ j = 4 ∨ j = 5 ∨ j = 6 by omega) with rfl | rfl | rfl | rfl | rfl | rfl | rfl <;> simp
    generalize ([3, 3, 3, 5, 3, 3, 29] : List Int).getD j 0 = tp at hcell
    have hr3' := hr3.alloc (.cells #[.int .i64 3, .int .i64 3, .int .i64 3, .int .i64 5, .int .i64 3, .int .i64 3, .int .i64 29] 3)
    have hT' := Lib.hid (hT.alloc (.cells #[.int .i64 3, .int .i64 3, .int .i64 3, .int .i64 5, .int .i64 3, .int .i64 3, .int .i64 29] 3))
    have hk' := Lib.hid (hk.after ((Below.refl _ _).alloc (Nat.le_refl _) (.cells #[.int .i64 3, .int .i64 3, .int .i64 3, .int .i64 5, .int .i64 3, .int .i64 3, .int .i64 29] 3)))
    clear hT hk
    go_wp2_with fail
    refine (H2.out _).mono ?_
    rintro e w' ⟨rfl, rfl⟩
    go_wp2_with fail
    refine (pick_any B g _ _ _ hr3' (by omega) (by omega) (by omega)).mono ?_
    rintro e u4 ⟨s, rfl, hx, hr4, hk4⟩
    have hT := hT'.out.keeps hk4 (by omega)
    have hk := hk'.out.trans hk4
    clear hx hk4 hr3 hr3' hT' hk' hcell
    have hbs : Below w.heap.size u4 (((u4.setCell ⟨w.heap.size, 0, none⟩ (.int .i64 ((j : Int) + 2))).setCell ⟨w.heap.size, 1, none⟩ (.int .i64 tp)).setCell ⟨w.heap.size, 2, none⟩ (.int .i64 (s : Int))) := tri_set _ _ _ _ _
    obtain ⟨c0, c1, c2, cf, cl⟩ := hT
    go_wp2
    exact bodyPost_ret (v := .agg #[.int .i64 ((j : Int) + 2), .int .i64 tp, .int .i64 (s : Int)]) (by simp [results, Try.results103, go_sem, c0, c1, c2]) rfl ⟨_, _, _, rfl, by omega, (hr4.below' hbs hg.2).mono (by omega), hk.step hbs hg.2⟩
  · have b0 : ((i : Int) == 0) = false := by simpa using h0
    go_wp2_with fail
    refine (H2.out _).mono ?_
    rintro e w' ⟨rfl, rfl⟩
    go_wp2_with fail
    refine (pick_any B g _ _ _ hr3 (by omega) (by omega) (by omega)).mono ?_
    rintro e u4 ⟨s, rfl, hx, hr4, hk4⟩
    replace hT := hT.keeps hk4 (by omega)
    replace hk := hk.trans hk4
    clear hx hk4 hr3
    have hbs : Below w.heap.size u4 (((u4.setCell ⟨w.heap.size, 0, none⟩ (.int .i64 ((j : Int) + 2))).setCell ⟨w.heap.size, 1, none⟩ (.int .i64 (1 + (k : Int)))).setCell ⟨w.heap.size, 2, none⟩ (.int .i64 (s : Int))) := tri_set _ _ _ _ _
    obtain ⟨c0, c1, c2, cf, cl⟩ := hT
    go_wp2
    exact bodyPost_ret (v := .agg #[.int .i64 ((j : Int) + 2), .int .i64 (1 + (k : Int)), .int .i64 (s : Int)]) (by simp [results, Try.results103, go_sem, c0, c1, c2]) rfl ⟨_, _, _, rfl, by omega, (hr4.below' hbs hg.2).mono (by omega), hk.step hbs hg.2⟩
theorem two_of {z : Int} (h2 : 2 ≤ z) (h8 : z ≤ 8) : ∃ P : Nat, P ≤ 256 ∧ ∀ u : World, Calls Try.prog 107 #[.int .i64 z] u fun e w' => e = .returned (.int .i64 (P : Int)) ∧ u = w' := by
  obtain ⟨n, rfl⟩ : ∃ n : Nat, z = (n : Int) := ⟨z.toNat, by omega⟩
  exact ⟨2 ^ n, Nat.pow_le_pow_right (show 0 < 2 by omega) (show n ≤ 8 by omega), fun u => two_any n u (by omega)⟩
theorem one_set (u : World) {B b : Nat} (h : B ≤ b) (i : Nat) (x : Value) : Below B u (u.setCell ⟨b, i, none⟩ x) := (Below.refl B u).setCell (p := ⟨b, i, none⟩) h x
set_option maxHeartbeats 4000000 in
theorem bad_any (B g lim : Nat) (z t s : Int) (w : World) (hr : Rd w B g lim) (hlim : lim ≤ 1000) (h2 : 2 ≤ z) (h8 : z ≤ 8) :
    Calls Try.prog 102 #[.pointer (some ⟨g, 0, none⟩), .agg #[.int .i64 z, .int .i64 t, .int .i64 s]] w fun e w' => ∃ z t s : Int, e = .returned (.agg #[.int .i64 z, .int .i64 t, .int .i64 s]) ∧ Rd w' B g (lim + 10) ∧ Keeps g w w' := by
  have hg := hr.lt
  obtain ⟨P, hP, h2P⟩ := two_of h2 h8
  have H2 := Lib.hid h2P
  clear h2P
  go_enter Try.func102, Try.ntmps102
  go_wp2_with fail
  obtain ⟨W, hW⟩ : ∃ W, W = (w.alloc (.cells #[.int .i64 z, .int .i64 t, .int .i64 s] 40)).alloc (.cells #[.int .i64 0, .int .i64 0, .int .i64 0] 40) := ⟨_, rfl⟩
  have hb0 : Below w.heap.size w W := by rw [hW]; exact ((Below.refl _ _).alloc (Nat.le_refl _) _).alloc (by simp) _
  have hX : Tri W w.heap.size z t s := by rw [hW]; exact (Tri.box z t s _).alloc _
  have hY : Tri W (w.heap.size + 1) 0 0 0 := by
    rw [hW]
    have := Tri.box (u := w.alloc (.cells #[.int .i64 z, .int .i64 t, .int .i64 s] 40)) 0 0 0 40
    simpa using this
  have hrW := hr.below hb0
  have hk := (Keeps.refl g w).step hb0 hg.2
  rw [← hW]
  clear hW hr hb0
  refine (pick_any B g _ _ _ hrW (by omega) (by omega) (by omega)).mono ?_
  rintro e u1 ⟨k, rfl, hx, hr, hk1⟩
  replace hX := hX.keeps hk1 (by omega)
  replace hY := hY.keeps hk1 (by omega)
  replace hk := hk.trans hk1
  clear hx hk1 hrW
  by_cases h0 : k = 0
  · subst h0
    have HX := Lib.hid hX
    have HY := Lib.hid hY
    have HK := Lib.hid hk
    clear hX hY hk
    go_wp2_with fail
    refine (num_lit B g _ [1, 9, 0, -1, 9223372036854775807] _ _ _ hr (by omega) rfl (by simp) (by simp)).mono ?_
    rintro e u2 ⟨n, hn, rfl, hr2, hk2⟩
    have hX := HX.out.keeps hk2 (by omega)
    have hY := (HY.out.keeps hk2 (by omega)).other (p := ⟨w.heap.size, 0, none⟩) (by show w.heap.size ≠ w.heap.size + 1; omega) (.int .i64 n)
    have hk := HK.out.trans hk2
    clear hn hk2 hr HX HY HK
    have hbs : Below w.heap.size u2 ((((u2.setCell ⟨w.heap.size, 0, none⟩ (.int .i64 n)).setCell ⟨w.heap.size + 1, 0, none⟩ (.int .i64 n)).setCell ⟨w.heap.size + 1, 1, none⟩ (.int .i64 t)).setCell ⟨w.heap.size + 1, 2, none⟩ (.int .i64 s)) :=
      (one_set u2 (Nat.le_refl _) 0 _).trans ((tri_set _ (w.heap.size + 1) _ _ _).mono (by omega))
    obtain ⟨c0, c1, c2, cf, cl⟩ := hX
    obtain ⟨d0, d1, d2, df, dl⟩ := hY
    have hR := (hr2.below' hbs hg.2)
    have hK := hk.step hbs hg.2
    clear hr2 hk hbs
    go_wp2
    exact bodyPost_ret (v := .agg #[.int .i64 n, .int .i64 t, .int .i64 s]) (by simp [results, Try.results102, go_sem, d0, d1, d2]) rfl ⟨_, _, _, rfl, hR.mono (by omega), hK⟩
  have b0 : ((k : Int) == 0) = false := by simpa using h0
  by_cases h1 : k = 1
  · subst h1
    obtain ⟨c0, c1, c2, cf, cl⟩ := id hX
    have HX := Lib.hid hX
    have HY := Lib.hid hY
    have HK := Lib.hid hk
    clear hX hY hk
    go_wp2_with fail
    refine (H2.out _).mono ?_
    rintro e w' ⟨rfl, rfl⟩
    go_wp2_with fail
    refine (num_lit B g _ [0, 256, -1, (P : Int)] _ _ _ hr (by omega) rfl (by simp) (by simp)).mono ?_
    rintro e u2 ⟨n, hn, rfl, hr2, hk2⟩
    clear c0 c1 c2 cf
    have hX := HX.out.keeps hk2 (by omega)
    have hY := (HY.out.keeps hk2 (by omega)).other (p := ⟨w.heap.size, 1, none⟩) (by show w.heap.size ≠ w.heap.size + 1; omega) (.int .i64 n)
    have hk := HK.out.trans hk2
    clear hn hk2 hr HX HY HK
    have hbs : Below w.heap.size u2 ((((u2.setCell ⟨w.heap.size, 1, none⟩ (.int .i64 n)).setCell ⟨w.heap.size + 1, 0, none⟩ (.int .i64 z)).setCell ⟨w.heap.size + 1, 1, none⟩ (.int .i64 n)).setCell ⟨w.heap.size + 1, 2, none⟩ (.int .i64 s)) :=
      (one_set u2 (Nat.le_refl _) 1 _).trans ((tri_set _ (w.heap.size + 1) _ _ _).mono (by omega))
    obtain ⟨c0, c1, c2, cf, cl⟩ := hX
    obtain ⟨d0, d1, d2, df, dl⟩ := hY
    have hR := (hr2.below' hbs hg.2)
    have hK := hk.step hbs hg.2
    clear hr2 hk hbs
    go_wp2
    exact bodyPost_ret (v := .agg #[.int .i64 z, .int .i64 n, .int .i64 s]) (by simp [results, Try.results102, go_sem, d0, d1, d2]) rfl ⟨_, _, _, rfl, hR.mono (by omega), hK⟩
  have b1 : ((k : Int) == 1) = false := by simp; omega
  by_cases h2' : k = 2
  · subst h2'
    obtain ⟨c0, c1, c2, cf, cl⟩ := id hX
    have HX := Lib.hid hX
    have HY := Lib.hid hY
    have HK := Lib.hid hk
    clear hX hY hk
    go_wp2_with fail
    refine (H2.out _).mono ?_
    rintro e w' ⟨rfl, rfl⟩
    go_wp2_with fail
    refine (num_lit B g _ [-1, (P : Int), 9223372036854775807] _ _ _ hr (by omega) rfl (by simp) (by simp)).mono ?_
    rintro e u2 ⟨n, hn, rfl, hr2, hk2⟩
    clear c0 c1 c2 cf
    have hX := HX.out.keeps hk2 (by omega)
    have hY := (HY.out.keeps hk2 (by omega)).other (p := ⟨w.heap.size, 2, none⟩) (by show w.heap.size ≠ w.heap.size + 1; omega) (.int .i64 n)
    have hk := HK.out.trans hk2
    clear hn hk2 hr HX HY HK
    have hbs : Below w.heap.size u2 ((((u2.setCell ⟨w.heap.size, 2, none⟩ (.int .i64 n)).setCell ⟨w.heap.size + 1, 0, none⟩ (.int .i64 z)).setCell ⟨w.heap.size + 1, 1, none⟩ (.int .i64 t)).setCell ⟨w.heap.size + 1, 2, none⟩ (.int .i64 n)) :=
      (one_set u2 (Nat.le_refl _) 2 _).trans ((tri_set _ (w.heap.size + 1) _ _ _).mono (by omega))
    obtain ⟨c0, c1, c2, cf, cl⟩ := hX
    obtain ⟨d0, d1, d2, df, dl⟩ := hY
    have hR := (hr2.below' hbs hg.2)
    have hK := hk.step hbs hg.2
    clear hr2 hk hbs
    go_wp2
    exact bodyPost_ret (v := .agg #[.int .i64 z, .int .i64 t, .int .i64 n]) (by simp [results, Try.results102, go_sem, d0, d1, d2]) rfl ⟨_, _, _, rfl, hR.mono (by omega), hK⟩
  have b2 : ((k : Int) == 2) = false := by simp; omega
  have hbs : Below w.heap.size u1 (((u1.setCell ⟨w.heap.size + 1, 0, none⟩ (.int .i64 z)).setCell ⟨w.heap.size + 1, 1, none⟩ (.int .i64 t)).setCell ⟨w.heap.size + 1, 2, none⟩ (.int .i64 s)) :=
    (tri_set _ (w.heap.size + 1) _ _ _).mono (by omega)
  obtain ⟨c0, c1, c2, cf, cl⟩ := hX
  obtain ⟨d0, d1, d2, df, dl⟩ := hY
  have hR := (hr.below' hbs hg.2)
  have hK := hk.step hbs hg.2
  clear hr hk hbs
  go_wp2
  exact bodyPost_ret (v := .agg #[.int .i64 z, .int .i64 t, .int .i64 s]) (by simp [results, Try.results102, go_sem, d0, d1, d2]) rfl ⟨_, _, _, rfl, hR.mono (by omega), hK⟩
end Go.Proofs.Ytmfblphnedoejaa
