/- Weak contracts of the functions that draw the arguments of searches, checks and tables. -/
import Derived.Test.YtmecbiphejjkmaaDrawAt
import Derived.Test.YtmecbiphejjkmaaDrawT
namespace Go.Proofs.Ytmecbiphejjkmaa
set_option maxRecDepth 20000
open Go.ChangeShapes Go.WideShapes Go.ChangeAt Go.RowKit
set_option linter.unusedVariables false
set_option linter.unusedSimpArgs false

/-- what the functions that draw a signal and a pilot have in common: the signal, the pilot -/
def SlP (w w' : World) (v : Value) (z : List Int) (l : List UInt8) (m : Int) : Prop := (l.length ≤ 2001 ∧ -1 ≤ m ∧ m ≤ 9) ∧ (Sl w' w.heap.size w'.heap.size v z ∧ z.length ≤ 10001)
theorem SlP.mk {w w' : World} {v : Value} {z : List Int} {l : List UInt8} {m : Int} (h1 : l.length ≤ 2001 ∧ -1 ≤ m ∧ m ≤ 9) (h2 : Sl w' w.heap.size w'.heap.size v z) (h3 : z.length ≤ 10001) : SlP w w' v z l m := ⟨h1, h2, h3⟩

theorem set2_size (u : World) (b : Nat) (x y : Value) : u.heap.size ≤ ((u.setCell ⟨b, 0, none⟩ x).setCell ⟨b, 1, none⟩ y).heap.size := by simp

set_option maxHeartbeats 4000000 in
theorem drawLockedAt_any (a : Option Addr) (len cap : Nat) (zs : List Int) (w : World) (h : IsRow .u8 w a len cap zs) :
    Calls Try.prog 22 #[.slice a len cap] w fun e w' => ∃ (v : Value) (z : List Int) (l : List UInt8) (m x t : Int), e = .returned (.tuple #[v, .agg #[.string (str l), .int .i64 m], .int .i64 x, .int .i64 t]) ∧ SlP w w' v z l m ∧ Below w.heap.size w w' := by
  go_enter Try.func22, Try.ntmps22
  go_wp2_with fail
  obtain ⟨W, hW⟩ : ∃ W, W = w.alloc (.cells #[.string ⟨#[]⟩, .int .i64 0] 25) := ⟨_, rfl⟩
  have hb0 : Below w.heap.size w W := by rw [hW]; exact (Below.refl _ _).alloc (Nat.le_refl _) _
  have hWs : w.heap.size < W.heap.size := by rw [hW]; simp
  have hY : Two W w.heap.size (.string ⟨#[]⟩) (.int .i64 0) := by rw [hW]; exact Two.box _ _ _
  have hrow := row_below' h hb0
  rw [← hW]
  clear hW h
  refine (open_any _ _ _ _ _ hrow).mono ?_
  rintro e w1 ⟨rfl, hr, hb⟩
  clear hrow
  have hg := hr.lt
  replace hY := hY.block (hb.block _ (by omega)) hb.size
  have hk := Keeps.refl W.heap.size w1
  have hbw : Below w.heap.size w w1 := hb0.trans (hb.mono (by omega))
  clear hb hb0
  go_wp2_with fail
  refine (heard_any _ _ _ _ hr (by omega)).mono ?_
  rintro e u1 ⟨v, z, l, m, off, rfl, ⟨hp, hl2, hl15, hm1, hm6⟩, hoff, ⟨hsl, hz⟩, hr1, hk1⟩
  have hoff2 : off ≤ 3000 := by have h := Nat.mul_le_mul hl15 hm6; omega
  replace hY := hY.keeps hk1 (by omega)
  replace hk := hk.trans hk1
  have hs1 := hk.size
  clear hr hk1
  obtain ⟨V, hV⟩ : ∃ V, V = u1.alloc (.cells #[.string (str l), .int .i64 (m : Int)] 25) := ⟨_, rfl⟩
  have hX : Two V u1.heap.size (.string (str l)) (.int .i64 (m : Int)) := by rw [hV]; exact Two.box _ _ _
  have hYV : Two V w.heap.size (.string ⟨#[]⟩) (.int .i64 0) := by rw [hV]; exact hY.alloc _
  have hkV : Keeps W.heap.size w1 V := by rw [hV]; exact hk.after ((Below.refl _ _).alloc (Nat.le_refl _) _)
  have hk1V : Keeps W.heap.size u1 V := by rw [hV]; exact Keeps.of_below (by omega) ((Below.refl _ _).alloc (Nat.le_refl _) _)
  have hslV : Sl V w1.heap.size V.heap.size v z := (hsl.keeps hk1V (by omega)).up hk1V.size
  have hrV : Rd V W.heap.size W.heap.size (0 + 500) := by rw [hV]; exact hr1.alloc _
  have HX := Lib.hid hX
  have HY := Lib.hid hYV
  have HP := Lib.hid hp
  have HS := Lib.hid hslV
  have HBW := Lib.hid hbw
  have HKV := Lib.hid hkV
  have hws : w.heap.size ≤ w1.heap.size := hbw.size
  clear hX hYV hY hk hr1 hp hsl hslV hk1V hbw hkV
  go_wp2_with fail
  rw [← hV]
  have hr := hrV
  have hk := Keeps.refl W.heap.size V
  have hVs : u1.heap.size < V.heap.size := by rw [hV]; simp
  have hne : u1.heap.size ≠ W.heap.size := by omega
  have hne2 : w.heap.size ≠ W.heap.size := by omega
  have hlt2 : w.heap.size < V.heap.size := by omega
  clear hV hrV
  go_wp2_with fail
  refine (pick_any _ _ _ _ _ hr (by omega) (by omega) (by omega)).mono ?_
  rintro e u17 ⟨k, rfl, hx, hr', hk'⟩
  replace hk := hk.trans hk'
  clear hk' hr
  have hr := hr'
  clear hr'
  clear hx
  by_cases h0 : k = 0
  · skip
    subst h0
    obtain ⟨c0, c1, cf, cl⟩ := HX.out.keeps hk (by omega)
    go_wp2_with fail
    refine (near_any _ _ _ l m off _ hr (by omega) HP.out (by omega) (by omega) hoff2).mono ?_
    rintro e u18 ⟨x, rfl, hx, hr', hk'⟩
    replace hk := hk.trans hk'
    clear hk' hr
    have hr := hr'
    clear hr'
    clear hx c0 c1 cf cl
    obtain ⟨c0, c1, cf, cl⟩ := HX.out.keeps hk (by omega)
    go_wp2_with fail
    refine (threshold_any _ _ _ l m _ hr (by omega) HP.out (by omega) (by omega)).mono ?_
    rintro e u19 ⟨t, rfl, ht, hr', hk'⟩
    replace hk := hk.trans hk'
    clear hk' hr
    have hr := hr'
    clear hr'
    clear ht c0 c1 cf cl
    obtain ⟨c0, c1, cf, cl⟩ := HX.out.keeps hk (by omega)
    go_wp2_with fail
    refine (l5Bad_any _ _ _ l m _ hr (by omega) (by omega) (by omega)).mono ?_
    rintro e u20 ⟨l', n', rfl, hn', hr', hk'⟩
    replace hk := hk.trans hk'
    clear hk' hr
    have hr := hr'
    clear hr'
    (try clear c0 c1 cf cl)
    have hsl4 := (HS.out.keeps hk (by omega)).up hk.size
    have HSF := Lib.hid ((hsl4.set2 (b := w.heap.size) (x := .string (str l')) (y := .int .i64 n') (by omega)).mono hws (set2_size _ w.heap.size (.string (str l')) (.int .i64 n')))
    have hB := (HBW.out.trans ((HKV.out.trans hk).below.mono (by omega))).trans (two_set _ (Nat.le_refl w.heap.size) (.string (str l')) (.int .i64 n'))
    obtain ⟨d0, d1, df, dl⟩ := HY.out.keeps hk (by omega)
    clear hk hr hsl4
    go_wp2
    exact bodyPost_ret (v := .tuple #[v, .agg #[.string (str l'), .int .i64 n'], .int .i64 x, .int .i64 t]) (by simp [results, Try.results22, go_sem, d0, d1]) rfl ⟨v, z, _, _, _, _, rfl, SlP.mk hn' HSF.out hz, hB⟩
  · skip
    obtain ⟨c0, c1, cf, cl⟩ := HX.out.keeps hk (by omega)
    go_wp2_with fail
    refine (threshold_any _ _ _ l m _ hr (by omega) HP.out (by omega) (by omega)).mono ?_
    rintro e u21 ⟨t, rfl, ht, hr', hk'⟩
    replace hk := hk.trans hk'
    clear hk' hr
    have hr := hr'
    clear hr'
    clear ht c0 c1 cf cl
    obtain ⟨c0, c1, cf, cl⟩ := HX.out.keeps hk (by omega)
    go_wp2_with fail
    refine (l5Bad_any _ _ _ l m _ hr (by omega) (by omega) (by omega)).mono ?_
    rintro e u22 ⟨l', n', rfl, hn', hr', hk'⟩
    replace hk := hk.trans hk'
    clear hk' hr
    have hr := hr'
    clear hr'
    (try clear c0 c1 cf cl)
    have hsl4 := (HS.out.keeps hk (by omega)).up hk.size
    have HSF := Lib.hid ((hsl4.set2 (b := w.heap.size) (x := .string (str l')) (y := .int .i64 n') (by omega)).mono hws (set2_size _ w.heap.size (.string (str l')) (.int .i64 n')))
    have hB := (HBW.out.trans ((HKV.out.trans hk).below.mono (by omega))).trans (two_set _ (Nat.le_refl w.heap.size) (.string (str l')) (.int .i64 n'))
    obtain ⟨d0, d1, df, dl⟩ := HY.out.keeps hk (by omega)
    clear hk hr hsl4
    go_wp2
    exact bodyPost_ret (v := .tuple #[v, .agg #[.string (str l'), .int .i64 n'], .int .i64 (off : Int), .int .i64 t]) (by simp [results, Try.results22, go_sem, d0, d1]) rfl ⟨v, z, _, _, _, _, rfl, SlP.mk hn' HSF.out hz, hB⟩
set_option maxHeartbeats 4000000 in
theorem drawScoreTable_any (a : Option Addr) (len cap : Nat) (zs : List Int) (w : World) (h : IsRow .u8 w a len cap zs) :
    Calls Try.prog 10 #[.slice a len cap] w fun e w' => ∃ (v : Value) (z : List Int) (l : List UInt8) (m : Int), e = .returned (.tuple #[v, .agg #[.string (str l), .int .i64 m]]) ∧ SlP w w' v z l m ∧ Below w.heap.size w w' := by
  go_enter Try.func10, Try.ntmps10
  go_wp2_with fail
  obtain ⟨W, hW⟩ : ∃ W, W = w.alloc (.cells #[.string ⟨#[]⟩, .int .i64 0] 25) := ⟨_, rfl⟩
  have hb0 : Below w.heap.size w W := by rw [hW]; exact (Below.refl _ _).alloc (Nat.le_refl _) _
  have hWs : w.heap.size < W.heap.size := by rw [hW]; simp
  have hY : Two W w.heap.size (.string ⟨#[]⟩) (.int .i64 0) := by rw [hW]; exact Two.box _ _ _
  have hrow := row_below' h hb0
  rw [← hW]
  clear hW h
  refine (drawAt_any _ _ _ _ _ hrow).mono ?_
  rintro e u4 ⟨v, z, l', n', x, rfl, hn', hx, ⟨hsl, hz⟩, hb⟩
  replace hY := hY.block (hb.block _ (by omega)) hb.size
  have hs4 := hb.size
  obtain ⟨V, hV⟩ : ∃ V, V = u4.alloc (.cells #[.string (str l'), .int .i64 n'] 25) := ⟨_, rfl⟩
  have hX : Two V u4.heap.size (.string (str l')) (.int .i64 n') := by rw [hV]; exact Two.box _ _ _
  have hYV : Two V w.heap.size (.string ⟨#[]⟩) (.int .i64 0) := by rw [hV]; exact hY.alloc _
  have hbV : Below W.heap.size u4 V := by rw [hV]; exact (Below.refl _ _).alloc (by omega) _
  have hslV : Sl V W.heap.size V.heap.size v z := by
    have h0 : Below u4.heap.size u4 V := by rw [hV]; exact (Below.refl _ _).alloc (Nat.le_refl _) _
    exact (hsl.below h0 (Nat.le_refl _)).mono (Nat.le_refl _) h0.size
  have hbwV : Below w.heap.size w V := hb0.trans ((hb.trans hbV).mono (by omega))
  go_wp2_with fail
  rw [← hV]
  have hVs : u4.heap.size < V.heap.size := by rw [hV]; simp
  have HSF := Lib.hid ((hslV.set2 (b := w.heap.size) (x := .string (str l')) (y := .int .i64 n') hWs).mono (show w.heap.size ≤ W.heap.size by omega) (set2_size V w.heap.size (.string (str l')) (.int .i64 n')))
  have HB := Lib.hid (hbwV.trans (two_set V (Nat.le_refl w.heap.size) (.string (str l')) (.int .i64 n')))
  have HYV := Lib.hid hYV
  have HT : Hid (∀ u : World, Below V.heap.size V u → u.cell? ⟨u4.heap.size, 0, none⟩ = some (.string (str l')) ∧ u.cell? ⟨u4.heap.size, 1, none⟩ = some (.int .i64 n')) := fun u hu => ⟨(hX.below hu).1, (hX.below hu).2.1⟩
  have hbq := Below.refl V.heap.size V
  have hne : w.heap.size ≠ u4.heap.size := by omega
  clear hV hb hb0 hrow hsl hY hYV hbV hslV hbwV hX
  obtain ⟨d0, d1, df, dl⟩ := HYV.out
  go_wp2
  refine wp_region_held_drew (S := (fun u => u.cell? ⟨u4.heap.size, 0, none⟩ = some (.string (str l')) ∧ u.cell? ⟨u4.heap.size, 1, none⟩ = some (.int .i64 n'))) (by kernel_rfl) ?_ (fun hHeld => ?_)
  · (try dsimp only)
    first | exact HT.out _ (by first | assumption | exact Below.drew (by assumption)) | exact two_over (HT.out _ (by first | assumption | exact Below.drew (by assumption))) hne
  first
    | (refine wpAnyH_take (i := 0) (oi := ⟨(some 13), _, _, _, _, _⟩) (v := ?_) rfl (by kernel_rfl) (by kernel_rfl) (by kernel_rfl) (fun _ _ _ h => h) (Or.inl ⟨by rfl, ?_⟩) (by assumption) ?_; rotate_left; (focus (intro ww hSw; (try dsimp only at hSw); go_simp; (try with_reducible rfl))))
    | (refine wpAnyH_take (i := 0) (oi := ⟨(some 13), _, _, _, _, _⟩) (v := undef) rfl (by kernel_rfl) (by kernel_rfl) (by kernel_rfl) (fun _ _ _ h => h) (Or.inr ⟨by rfl, rfl⟩) (by assumption) ?_)
  (try simp only [Act.put, List.setIfInBounds_toArray, List.set_cons_zero, List.set_cons_succ])
  first
    | (refine wpAnyH_take (i := 1) (oi := ⟨(some 14), _, _, _, _, _⟩) (v := ?_) rfl (by kernel_rfl) (by kernel_rfl) (by kernel_rfl) (fun _ _ _ h => h) (Or.inl ⟨by rfl, ?_⟩) (by assumption) ?_; rotate_left; (focus (intro ww hSw; (try dsimp only at hSw); go_simp; (try with_reducible rfl))))
    | (refine wpAnyH_take (i := 1) (oi := ⟨(some 14), _, _, _, _, _⟩) (v := undef) rfl (by kernel_rfl) (by kernel_rfl) (by kernel_rfl) (fun _ _ _ h => h) (Or.inr ⟨by rfl, rfl⟩) (by assumption) ?_)
  (try simp only [Act.put, List.setIfInBounds_toArray, List.set_cons_zero, List.set_cons_succ])
  first
    | (refine wpAnyH_take (i := 2) (oi := ⟨(some 2), _, _, _, _, _⟩) (v := ?_) rfl (by kernel_rfl) (by kernel_rfl) (by kernel_rfl) (fun _ _ _ h => h) (Or.inl ⟨by rfl, ?_⟩) (by assumption) ?_; rotate_left; (focus (intro ww hSw; (try dsimp only at hSw); go_simp; (try with_reducible rfl))))
    | (refine wpAnyH_take (i := 2) (oi := ⟨(some 2), _, _, _, _, _⟩) (v := undef) rfl (by kernel_rfl) (by kernel_rfl) (by kernel_rfl) (fun _ _ _ h => h) (Or.inr ⟨by rfl, rfl⟩) (by assumption) ?_)
  (try simp only [Act.put, List.setIfInBounds_toArray, List.set_cons_zero, List.set_cons_succ])
  refine wpAnyH_ready (rs := [3]) (by kernel_rfl) (by simp) ?_
  refine AllReadyH.cons (o := ⟨none, _, _, _, _, _⟩) rfl (fun K hK => ?_) AllReadyH.nil
  go_simp
  refine hK.out _ _ ?_ (fun hHeld => ?_)
  · (try dsimp only)
    first | exact HT.out _ (by first | assumption | exact Below.drew (by assumption)) | exact two_over (HT.out _ (by first | assumption | exact Below.drew (by assumption))) hne
  clear hK K
  (try simp only [Act.put, List.setIfInBounds_toArray, List.set_cons_zero, List.set_cons_succ])
  refine wpAnyH_done (by kernel_rfl) ?_ _
  go_wp2
  exact bodyPost_ret (v := .tuple #[v, .agg #[.string (str l'), .int .i64 n']]) (by simp [results, Try.results10, go_sem, d0, d1]) rfl ⟨v, z, _, _, rfl, SlP.mk hn' HSF.out hz, HB.out.drew⟩
theorem twoC {u : World} {b : Nat} {x y : Value} (h : Two u b x y) : u.cell? ⟨b, 0, none⟩ = some x ∧ u.cell? ⟨b, 1, none⟩ = some y := ⟨h.1, h.2.1⟩
set_option maxHeartbeats 4000000 in
theorem drawTrackPath_any (a : Option Addr) (len cap : Nat) (zs : List Int) (w : World) (h : IsRow .u8 w a len cap zs) :
    Calls Try.prog 26 #[.slice a len cap] w fun e w' => ∃ (v : Value) (z : List Int) (l : List UInt8) (m x p : Int), e = .returned (.tuple #[v, .agg #[.string (str l), .int .i64 m], .int .i64 x, .int .i64 p]) ∧ SlP w w' v z l m ∧ Below w.heap.size w w' := by
  go_enter Try.func26, Try.ntmps26
  go_wp2_with fail
  obtain ⟨W, hW⟩ : ∃ W, W = w.alloc (.cells #[.string ⟨#[]⟩, .int .i64 0] 25) := ⟨_, rfl⟩
  have hb0 : Below w.heap.size w W := by rw [hW]; exact (Below.refl _ _).alloc (Nat.le_refl _) _
  have hWs : w.heap.size < W.heap.size := by rw [hW]; simp
  have hY : Two W w.heap.size (.string ⟨#[]⟩) (.int .i64 0) := by rw [hW]; exact Two.box _ _ _
  have hrow := row_below' h hb0
  rw [← hW]
  clear hW h
  have hrow2 := hrow
  refine (open_any _ _ _ _ _ hrow).mono ?_
  rintro e w1 ⟨rfl, hr, hb⟩
  clear hrow
  have hg := hr.lt
  replace hY := hY.block (hb.block _ (by omega)) hb.size
  have hrow := row_below' hrow2 hb
  have hbw : Below w.heap.size w w1 := hb0.trans (hb.mono (by omega))
  clear hb hb0 hrow2
  go_wp2_with fail
  refine (drawAt_any _ _ _ _ _ hrow).mono ?_
  rintro e u1 ⟨v, z, l', n', x, rfl, hn', hx, ⟨hsl, hz⟩, hb1⟩
  replace hY := hY.block (hb1.block _ (by omega)) hb1.size
  have hr1 := hr.below hb1
  have hs1 := hb1.size
  have hbu : Below w.heap.size w u1 := hbw.trans (hb1.mono hbw.size)
  obtain ⟨V, hV⟩ : ∃ V, V = u1.alloc (.cells #[.string (str l'), .int .i64 n'] 25) := ⟨_, rfl⟩
  have hX : Two V u1.heap.size (.string (str l')) (.int .i64 n') := by rw [hV]; exact Two.box _ _ _
  have hYV : Two V w.heap.size (.string ⟨#[]⟩) (.int .i64 0) := by rw [hV]; exact hY.alloc _
  have hbV : Below u1.heap.size u1 V := by rw [hV]; exact (Below.refl _ _).alloc (Nat.le_refl _) _
  have hslV : Sl V w1.heap.size V.heap.size v z := (hsl.below hbV (Nat.le_refl _)).mono (Nat.le_refl _) hbV.size
  have hrV : Rd V W.heap.size W.heap.size 0 := by rw [hV]; exact hr1.alloc _
  have hVs : u1.heap.size < V.heap.size := by rw [hV]; simp
  have hne : u1.heap.size ≠ W.heap.size := by omega
  have hne2 : w.heap.size ≠ W.heap.size := by omega
  have hne3 : w.heap.size ≠ u1.heap.size := by omega
  have HX := Lib.hid hX
  have HY := Lib.hid hYV
  have HS := Lib.hid hslV
  have HBV : Hid (Below w.heap.size w V) := Lib.hid (hbu.trans (hbV.mono (by omega)))
  clear hX hYV hY hr1 hsl hslV hbw hbu hrow hr hb1 hbV
  go_wp2_with fail
  rw [← hV]
  clear hV
  go_wp2_with fail
  refine (pick_any _ _ _ _ _ hrV (by omega) (by omega) (by omega)).mono ?_
  rintro e V2 ⟨k, rfl, hx2, hr, hk⟩
  clear hx2 hrV
  have HK := Lib.hid hk
  have hst : St W.heap.size W.heap.size (0 + 1) V2 V2 := ⟨hr, Keeps.refl _ _⟩
  have hV2s : V.heap.size ≤ V2.heap.size := hk.size
  have HX2 := Lib.hid (HX.out.keeps hk hne)
  clear hr hk
  by_cases h0 : k = 0
  · subst h0
    go_wp2
    refine wp_region_held_drew (S := (fun u => u.cell? ⟨u1.heap.size, 0, none⟩ = some (.string (str l')) ∧ u.cell? ⟨u1.heap.size, 1, none⟩ = some (.int .i64 n'))) (by kernel_rfl) ?_ (fun hHeld => ?_)
    · (try dsimp only)
      first | exact twoC (HX2.out.keeps (show St _ _ _ V2 _ from (by first | assumption | exact St.drew (by assumption))).2 hne) | exact twoC ((HX2.out.keeps (show St _ _ _ V2 _ from (by first | assumption | exact St.drew (by assumption))).2 hne).alloc _) | exact two_over (twoC (HX2.out.keeps (show St _ _ _ V2 _ from (by first | assumption | exact St.drew (by assumption))).2 hne)) hne3
    first
      | (refine wpAnyH_take (i := 0) (oi := ⟨(some 21), _, _, _, _, _⟩) (v := ?_) rfl (by kernel_rfl) (by kernel_rfl) (by kernel_rfl) (fun _ _ _ h => h) (Or.inl ⟨by rfl, ?_⟩) (by assumption) ?_; rotate_left; (focus (intro ww hSw; (try dsimp only at hSw); go_simp; (try with_reducible rfl))))
      | (refine wpAnyH_take (i := 0) (oi := ⟨(some 21), _, _, _, _, _⟩) (v := undef) rfl (by kernel_rfl) (by kernel_rfl) (by kernel_rfl) (fun _ _ _ h => h) (Or.inr ⟨by rfl, rfl⟩) (by assumption) ?_)
    (try simp only [Act.put, List.setIfInBounds_toArray, List.set_cons_zero, List.set_cons_succ])
    first
      | (refine wpAnyH_take (i := 1) (oi := ⟨(some 22), _, _, _, _, _⟩) (v := ?_) rfl (by kernel_rfl) (by kernel_rfl) (by kernel_rfl) (fun _ _ _ h => h) (Or.inl ⟨by rfl, ?_⟩) (by assumption) ?_; rotate_left; (focus (intro ww hSw; (try dsimp only at hSw); go_simp; (try with_reducible rfl))))
      | (refine wpAnyH_take (i := 1) (oi := ⟨(some 22), _, _, _, _, _⟩) (v := undef) rfl (by kernel_rfl) (by kernel_rfl) (by kernel_rfl) (fun _ _ _ h => h) (Or.inr ⟨by rfl, rfl⟩) (by assumption) ?_)
    (try simp only [Act.put, List.setIfInBounds_toArray, List.set_cons_zero, List.set_cons_succ])
    first
      | (refine wpAnyH_take (i := 2) (oi := ⟨(some 23), _, _, _, _, _⟩) (v := ?_) rfl (by kernel_rfl) (by kernel_rfl) (by kernel_rfl) (fun _ _ _ h => h) (Or.inl ⟨by rfl, ?_⟩) (by assumption) ?_; rotate_left; (focus (intro ww hSw; (try dsimp only at hSw); go_simp; (try with_reducible rfl))))
      | (refine wpAnyH_take (i := 2) (oi := ⟨(some 23), _, _, _, _, _⟩) (v := undef) rfl (by kernel_rfl) (by kernel_rfl) (by kernel_rfl) (fun _ _ _ h => h) (Or.inr ⟨by rfl, rfl⟩) (by assumption) ?_)
    (try simp only [Act.put, List.setIfInBounds_toArray, List.set_cons_zero, List.set_cons_succ])
    first
      | (refine wpAnyH_take (i := 3) (oi := ⟨(some 24), _, _, _, _, _⟩) (v := ?_) rfl (by kernel_rfl) (by kernel_rfl) (by kernel_rfl) (fun _ _ _ h => h) (Or.inl ⟨by rfl, ?_⟩) (by assumption) ?_; rotate_left; (focus (intro ww hSw; (try dsimp only at hSw); go_simp; (try with_reducible rfl))))
      | (refine wpAnyH_take (i := 3) (oi := ⟨(some 24), _, _, _, _, _⟩) (v := undef) rfl (by kernel_rfl) (by kernel_rfl) (by kernel_rfl) (fun _ _ _ h => h) (Or.inr ⟨by rfl, rfl⟩) (by assumption) ?_)
    (try simp only [Act.put, List.setIfInBounds_toArray, List.set_cons_zero, List.set_cons_succ])
    refine wpAnyH_ready (rs := [4]) (by kernel_rfl) (by simp) ?_
    refine AllReadyH.cons (o := ⟨(some 25), _, _, _, _, _⟩) rfl (fun K hK => ?_) AllReadyH.nil
    go_simp
    refine hK.out _ _ ?_ (fun hHeld => ?_)
    · (try dsimp only)
      first | exact twoC (HX2.out.keeps (show St _ _ _ V2 _ from (by first | assumption | exact St.drew (by assumption))).2 hne) | exact twoC ((HX2.out.keeps (show St _ _ _ V2 _ from (by first | assumption | exact St.drew (by assumption))).2 hne).alloc _) | exact two_over (twoC (HX2.out.keeps (show St _ _ _ V2 _ from (by first | assumption | exact St.drew (by assumption))).2 hne)) hne3
    clear hK K
    (try simp only [Act.put, List.setIfInBounds_toArray, List.set_cons_zero, List.set_cons_succ])
    refine wpAnyH_ready (rs := [5]) (by kernel_rfl) (by simp) ?_
    refine AllReadyH.cons (o := ⟨(some 26), _, _, _, _, _⟩) rfl (fun K hK => ?_) AllReadyH.nil
    go_simp
    refine (num_lit _ _ _ [-1, 200, 201, 9223372036854775807] _ _ _ (St.drew hst).1 (by omega) rfl (by simp) (by simp)).mono ?_
    rintro e v1 ⟨n, hn, rfl, hr1, hk1⟩
    have hstF : St W.heap.size W.heap.size _ V2 v1 := ⟨hr1, (St.drew hst).2.trans hk1⟩
    obtain ⟨d0, d1, df, dl⟩ := HY.out.keeps (HK.out.trans hstF.2) hne2
    go_wp2_with fail
    refine hK.out _ _ ?_ (fun hHeld => ?_)
    · (try dsimp only)
      first | exact twoC (HX2.out.keeps (show St _ _ _ V2 _ from (by first | assumption | exact St.drew (by assumption))).2 hne) | exact twoC ((HX2.out.keeps (show St _ _ _ V2 _ from (by first | assumption | exact St.drew (by assumption))).2 hne).alloc _) | exact two_over (twoC (HX2.out.keeps (show St _ _ _ V2 _ from (by first | assumption | exact St.drew (by assumption))).2 hne)) hne3
    clear hK K
    (try simp only [Act.put, List.setIfInBounds_toArray, List.set_cons_zero, List.set_cons_succ])
    first
      | (refine wpAnyH_take (i := 6) (oi := ⟨(some 2), _, _, _, _, _⟩) (v := ?_) rfl (by kernel_rfl) (by kernel_rfl) (by kernel_rfl) (fun _ _ _ h => h) (Or.inl ⟨by rfl, ?_⟩) (by assumption) ?_; rotate_left; (focus (intro ww hSw; (try dsimp only at hSw); go_simp; (try with_reducible rfl))))
      | (refine wpAnyH_take (i := 6) (oi := ⟨(some 2), _, _, _, _, _⟩) (v := undef) rfl (by kernel_rfl) (by kernel_rfl) (by kernel_rfl) (fun _ _ _ h => h) (Or.inr ⟨by rfl, rfl⟩) (by assumption) ?_)
    (try simp only [Act.put, List.setIfInBounds_toArray, List.set_cons_zero, List.set_cons_succ])
    refine wpAnyH_ready (rs := [7]) (by kernel_rfl) (by simp) ?_
    refine AllReadyH.cons (o := ⟨none, _, _, _, _, _⟩) rfl (fun K hK => ?_) AllReadyH.nil
    go_simp
    refine hK.out _ _ ?_ (fun hHeld => ?_)
    · (try dsimp only)
      first | exact twoC (HX2.out.keeps (show St _ _ _ V2 _ from (by first | assumption | exact St.drew (by assumption))).2 hne) | exact twoC ((HX2.out.keeps (show St _ _ _ V2 _ from (by first | assumption | exact St.drew (by assumption))).2 hne).alloc _) | exact two_over (twoC (HX2.out.keeps (show St _ _ _ V2 _ from (by first | assumption | exact St.drew (by assumption))).2 hne)) hne3
    clear hK K
    (try simp only [Act.put, List.setIfInBounds_toArray, List.set_cons_zero, List.set_cons_succ])
    first
      | (refine wpAnyH_take (i := 8) (oi := ⟨(some 4), _, _, _, _, _⟩) (v := ?_) rfl (by kernel_rfl) (by kernel_rfl) (by kernel_rfl) (fun _ _ _ h => h) (Or.inl ⟨by rfl, ?_⟩) (by assumption) ?_; rotate_left; (focus (intro ww hSw; (try dsimp only at hSw); go_simp; (try with_reducible rfl))))
      | (refine wpAnyH_take (i := 8) (oi := ⟨(some 4), _, _, _, _, _⟩) (v := undef) rfl (by kernel_rfl) (by kernel_rfl) (by kernel_rfl) (fun _ _ _ h => h) (Or.inr ⟨by rfl, rfl⟩) (by assumption) ?_)
    (try simp only [Act.put, List.setIfInBounds_toArray, List.set_cons_zero, List.set_cons_succ])
    first
      | (refine wpAnyH_take (i := 9) (oi := ⟨(some 5), _, _, _, _, _⟩) (v := ?_) rfl (by kernel_rfl) (by kernel_rfl) (by kernel_rfl) (fun _ _ _ h => h) (Or.inl ⟨by rfl, ?_⟩) (by assumption) ?_; rotate_left; (focus (intro ww hSw; (try dsimp only at hSw); go_simp; (try with_reducible rfl))))
      | (refine wpAnyH_take (i := 9) (oi := ⟨(some 5), _, _, _, _, _⟩) (v := undef) rfl (by kernel_rfl) (by kernel_rfl) (by kernel_rfl) (fun _ _ _ h => h) (Or.inr ⟨by rfl, rfl⟩) (by assumption) ?_)
    (try simp only [Act.put, List.setIfInBounds_toArray, List.set_cons_zero, List.set_cons_succ])
    refine wpAnyH_done (by kernel_rfl) ?_ _
    have hkF := HK.out.trans hstF.2
    have hsl4 := (HS.out.keeps hkF (by omega)).up hkF.size
    have HSF := Lib.hid ((hsl4.set2 (b := w.heap.size) (x := .string (str l')) (y := .int .i64 n') (by omega)).mono (show w.heap.size ≤ w1.heap.size by omega) (set2_size _ w.heap.size (.string (str l')) (.int .i64 n')))
    have hB := (HBV.out.trans (hkF.below.mono (by omega))).trans (two_set _ (Nat.le_refl w.heap.size) (.string (str l')) (.int .i64 n'))
    obtain ⟨d0, d1, df, dl⟩ := HY.out.keeps hkF (by omega)
    go_wp2
    exact bodyPost_ret (v := .tuple #[v, .agg #[.string (str l'), .int .i64 n'], .int .i64 x, .int .i64 n]) (by simp [results, Try.results26, go_sem, d0, d1]) rfl ⟨v, z, _, _, _, _, rfl, SlP.mk hn' HSF.out hz, hB⟩
  · skip
    go_wp2
    refine wp_region_held_drew (S := (fun u => u.cell? ⟨u1.heap.size, 0, none⟩ = some (.string (str l')) ∧ u.cell? ⟨u1.heap.size, 1, none⟩ = some (.int .i64 n'))) (by kernel_rfl) ?_ (fun hHeld => ?_)
    · (try dsimp only)
      first | exact twoC (HX2.out.keeps (show St _ _ _ V2 _ from (by first | assumption | exact St.drew (by assumption))).2 hne) | exact twoC ((HX2.out.keeps (show St _ _ _ V2 _ from (by first | assumption | exact St.drew (by assumption))).2 hne).alloc _) | exact two_over (twoC (HX2.out.keeps (show St _ _ _ V2 _ from (by first | assumption | exact St.drew (by assumption))).2 hne)) hne3
    first
      | (refine wpAnyH_take (i := 0) (oi := ⟨(some 27), _, _, _, _, _⟩) (v := ?_) rfl (by kernel_rfl) (by kernel_rfl) (by kernel_rfl) (fun _ _ _ h => h) (Or.inl ⟨by rfl, ?_⟩) (by assumption) ?_; rotate_left; (focus (intro ww hSw; (try dsimp only at hSw); go_simp; (try with_reducible rfl))))
      | (refine wpAnyH_take (i := 0) (oi := ⟨(some 27), _, _, _, _, _⟩) (v := undef) rfl (by kernel_rfl) (by kernel_rfl) (by kernel_rfl) (fun _ _ _ h => h) (Or.inr ⟨by rfl, rfl⟩) (by assumption) ?_)
    (try simp only [Act.put, List.setIfInBounds_toArray, List.set_cons_zero, List.set_cons_succ])
    first
      | (refine wpAnyH_take (i := 1) (oi := ⟨(some 28), _, _, _, _, _⟩) (v := ?_) rfl (by kernel_rfl) (by kernel_rfl) (by kernel_rfl) (fun _ _ _ h => h) (Or.inl ⟨by rfl, ?_⟩) (by assumption) ?_; rotate_left; (focus (intro ww hSw; (try dsimp only at hSw); go_simp; (try with_reducible rfl))))
      | (refine wpAnyH_take (i := 1) (oi := ⟨(some 28), _, _, _, _, _⟩) (v := undef) rfl (by kernel_rfl) (by kernel_rfl) (by kernel_rfl) (fun _ _ _ h => h) (Or.inr ⟨by rfl, rfl⟩) (by assumption) ?_)
    (try simp only [Act.put, List.setIfInBounds_toArray, List.set_cons_zero, List.set_cons_succ])
    first
      | (refine wpAnyH_take (i := 2) (oi := ⟨(some 29), _, _, _, _, _⟩) (v := ?_) rfl (by kernel_rfl) (by kernel_rfl) (by kernel_rfl) (fun _ _ _ h => h) (Or.inl ⟨by rfl, ?_⟩) (by assumption) ?_; rotate_left; (focus (intro ww hSw; (try dsimp only at hSw); go_simp; (try with_reducible rfl))))
      | (refine wpAnyH_take (i := 2) (oi := ⟨(some 29), _, _, _, _, _⟩) (v := undef) rfl (by kernel_rfl) (by kernel_rfl) (by kernel_rfl) (fun _ _ _ h => h) (Or.inr ⟨by rfl, rfl⟩) (by assumption) ?_)
    (try simp only [Act.put, List.setIfInBounds_toArray, List.set_cons_zero, List.set_cons_succ])
    first
      | (refine wpAnyH_take (i := 3) (oi := ⟨(some 30), _, _, _, _, _⟩) (v := ?_) rfl (by kernel_rfl) (by kernel_rfl) (by kernel_rfl) (fun _ _ _ h => h) (Or.inl ⟨by rfl, ?_⟩) (by assumption) ?_; rotate_left; (focus (intro ww hSw; (try dsimp only at hSw); go_simp; (try with_reducible rfl))))
      | (refine wpAnyH_take (i := 3) (oi := ⟨(some 30), _, _, _, _, _⟩) (v := undef) rfl (by kernel_rfl) (by kernel_rfl) (by kernel_rfl) (fun _ _ _ h => h) (Or.inr ⟨by rfl, rfl⟩) (by assumption) ?_)
    (try simp only [Act.put, List.setIfInBounds_toArray, List.set_cons_zero, List.set_cons_succ])
    refine wpAnyH_ready (rs := [4]) (by kernel_rfl) (by simp) ?_
    refine AllReadyH.cons (o := ⟨(some 31), _, _, _, _, _⟩) rfl (fun K hK => ?_) AllReadyH.nil
    go_simp
    refine (pick_st W.heap.size W.heap.size _ _ (W0 := V2) _ (by first | assumption | exact St.drew (by assumption)) (by omega) (by omega) (by omega)).mono ?_
    rintro e v1 ⟨j, rfl, hj, hstF⟩
    clear hj
    obtain ⟨d0, d1, df, dl⟩ := HY.out.keeps (HK.out.trans hstF.2) hne2
    go_wp2_with fail
    refine hK.out _ _ ?_ (fun hHeld => ?_)
    · (try dsimp only)
      first | exact twoC (HX2.out.keeps (show St _ _ _ V2 _ from (by first | assumption | exact St.drew (by assumption))).2 hne) | exact twoC ((HX2.out.keeps (show St _ _ _ V2 _ from (by first | assumption | exact St.drew (by assumption))).2 hne).alloc _) | exact two_over (twoC (HX2.out.keeps (show St _ _ _ V2 _ from (by first | assumption | exact St.drew (by assumption))).2 hne)) hne3
    clear hK K
    (try simp only [Act.put, List.setIfInBounds_toArray, List.set_cons_zero, List.set_cons_succ])
    first
      | (refine wpAnyH_take (i := 5) (oi := ⟨(some 2), _, _, _, _, _⟩) (v := ?_) rfl (by kernel_rfl) (by kernel_rfl) (by kernel_rfl) (fun _ _ _ h => h) (Or.inl ⟨by rfl, ?_⟩) (by assumption) ?_; rotate_left; (focus (intro ww hSw; (try dsimp only at hSw); go_simp; (try with_reducible rfl))))
      | (refine wpAnyH_take (i := 5) (oi := ⟨(some 2), _, _, _, _, _⟩) (v := undef) rfl (by kernel_rfl) (by kernel_rfl) (by kernel_rfl) (fun _ _ _ h => h) (Or.inr ⟨by rfl, rfl⟩) (by assumption) ?_)
    (try simp only [Act.put, List.setIfInBounds_toArray, List.set_cons_zero, List.set_cons_succ])
    refine wpAnyH_ready (rs := [6]) (by kernel_rfl) (by simp) ?_
    refine AllReadyH.cons (o := ⟨none, _, _, _, _, _⟩) rfl (fun K hK => ?_) AllReadyH.nil
    go_simp
    refine hK.out _ _ ?_ (fun hHeld => ?_)
    · (try dsimp only)
      first | exact twoC (HX2.out.keeps (show St _ _ _ V2 _ from (by first | assumption | exact St.drew (by assumption))).2 hne) | exact twoC ((HX2.out.keeps (show St _ _ _ V2 _ from (by first | assumption | exact St.drew (by assumption))).2 hne).alloc _) | exact two_over (twoC (HX2.out.keeps (show St _ _ _ V2 _ from (by first | assumption | exact St.drew (by assumption))).2 hne)) hne3
    clear hK K
    (try simp only [Act.put, List.setIfInBounds_toArray, List.set_cons_zero, List.set_cons_succ])
    first
      | (refine wpAnyH_take (i := 7) (oi := ⟨(some 4), _, _, _, _, _⟩) (v := ?_) rfl (by kernel_rfl) (by kernel_rfl) (by kernel_rfl) (fun _ _ _ h => h) (Or.inl ⟨by rfl, ?_⟩) (by assumption) ?_; rotate_left; (focus (intro ww hSw; (try dsimp only at hSw); go_simp; (try with_reducible rfl))))
      | (refine wpAnyH_take (i := 7) (oi := ⟨(some 4), _, _, _, _, _⟩) (v := undef) rfl (by kernel_rfl) (by kernel_rfl) (by kernel_rfl) (fun _ _ _ h => h) (Or.inr ⟨by rfl, rfl⟩) (by assumption) ?_)
    (try simp only [Act.put, List.setIfInBounds_toArray, List.set_cons_zero, List.set_cons_succ])
    first
      | (refine wpAnyH_take (i := 8) (oi := ⟨(some 5), _, _, _, _, _⟩) (v := ?_) rfl (by kernel_rfl) (by kernel_rfl) (by kernel_rfl) (fun _ _ _ h => h) (Or.inl ⟨by rfl, ?_⟩) (by assumption) ?_; rotate_left; (focus (intro ww hSw; (try dsimp only at hSw); go_simp; (try with_reducible rfl))))
      | (refine wpAnyH_take (i := 8) (oi := ⟨(some 5), _, _, _, _, _⟩) (v := undef) rfl (by kernel_rfl) (by kernel_rfl) (by kernel_rfl) (fun _ _ _ h => h) (Or.inr ⟨by rfl, rfl⟩) (by assumption) ?_)
    (try simp only [Act.put, List.setIfInBounds_toArray, List.set_cons_zero, List.set_cons_succ])
    refine wpAnyH_done (by kernel_rfl) ?_ _
    have hkF := HK.out.trans hstF.2
    have hsl4 := (HS.out.keeps hkF (by omega)).up hkF.size
    have HSF := Lib.hid ((hsl4.set2 (b := w.heap.size) (x := .string (str l')) (y := .int .i64 n') (by omega)).mono (show w.heap.size ≤ w1.heap.size by omega) (set2_size _ w.heap.size (.string (str l')) (.int .i64 n')))
    have hB := (HBV.out.trans (hkF.below.mono (by omega))).trans (two_set _ (Nat.le_refl w.heap.size) (.string (str l')) (.int .i64 n'))
    obtain ⟨d0, d1, df, dl⟩ := HY.out.keeps hkF (by omega)
    go_wp2
    exact bodyPost_ret (v := .tuple #[v, .agg #[.string (str l'), .int .i64 n'], .int .i64 x, .int .i64 (j : Int)]) (by simp [results, Try.results26, go_sem, d0, d1]) rfl ⟨v, z, _, _, _, _, rfl, SlP.mk hn' HSF.out hz, hB⟩
end Go.Proofs.Ytmecbiphejjkmaa
