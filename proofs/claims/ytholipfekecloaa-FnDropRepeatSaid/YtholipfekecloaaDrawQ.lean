/- Weak contracts of the functions that draw offsets, and pilots that are sometimes not valid. -/
import Derived.Test.YtholipfekecloaaDrawP
namespace Go.Proofs.Ytholipfekecloaa
set_option maxRecDepth 20000
open Go.ChangeShapes Go.WideShapes Go.ChangeAt Go.RowKit
set_option linter.unusedVariables false
set_option linter.unusedSimpArgs false

set_option maxHeartbeats 2000000 in
theorem l2Bad_any (B g lim : Nat) (l : List UInt8) (w : World) (hr : Rd w B g lim) (hlim : lim ≤ 5000) (hl : l.length ≤ 2000) :
    Calls Try.prog 85 #[.pointer (some ⟨g, 0, none⟩), .string (str l)] w fun e w' => ∃ l', e = .returned (.string (str l')) ∧ l'.length ≤ 2001 ∧ Rd w' B g (lim + 10) ∧ Keeps g w w' := by
  have hg := hr.lt
  have z0 := str_size l
  have hk := Keeps.refl g w
  go_enter Try.func85, Try.ntmps85
  go_wp2_with fail
  refine (pick_any B g lim _ _ hr (by omega) (by omega) (by omega)).mono ?_
  rintro e u10 ⟨k, rfl, hx, hr', hk'⟩
  replace hk := hk.trans hk'
  clear hk' hr
  have hr := hr'
  clear hr'
  clear hx
  by_cases h0 : k = 0
  · subst h0
    go_wp2_with fail
    refine (of_lit B g _ [str [50], str [120], str [32]] _ _ _ hr (by omega) rfl (by simp) (by simp)).mono ?_
    rintro e u11 ⟨s, hs, rfl, hr', hk'⟩
    replace hk := hk.trans hk'
    clear hk' hr
    have hr := hr'
    clear hr'
    obtain ⟨t, rfl, ht⟩ : ∃ t : List UInt8, s = str t ∧ t.length = 1 := by
      simp only [List.mem_cons, List.not_mem_nil, or_false] at hs
      rcases hs with rfl | rfl | rfl
      · exact ⟨[50], rfl, rfl⟩
      · exact ⟨[120], rfl, rfl⟩
      · exact ⟨[32], rfl, rfl⟩
    have ha := str_add l t
    have z1 := str_size t
    clear hs
    go_wp2
    go_ret
    exact ⟨l ++ t, rfl, by simp; omega, hr.mono (by omega), hk⟩
  have b0 : ((k : Int) == 0) = false := by simpa using h0
  by_cases h1 : k = 1
  · subst h1
    go_wp2
    go_ret
    exact ⟨[], rfl, by simp, hr.mono (by omega), hk⟩
  have b1 : ((k : Int) == 1) = false := by simp; omega
  by_cases h2 : k = 2
  · subst h2
    go_wp2_with fail
    refine (num_lit B g _ [255, 256] _ _ _ hr (by omega) rfl (by simp) (by simp)).mono ?_
    rintro e u12 ⟨s, hs, rfl, hr', hk'⟩
    replace hk := hk.trans hk'
    clear hk' hr
    have hr := hr'
    clear hr'
    have hs2 : 0 ≤ s ∧ s ≤ 256 := by simp at hs; omega
    clear hs
    go_wp2_with fail
    refine (many_any (str [49]) s _ (by rw [str_size]; simp; omega) (by omega)).mono ?_
    rintro e w' ⟨rfl, rfl⟩
    go_wp2
    go_ret
    exact ⟨_, rfl, by rw [manyL_len, str_list]; simp; omega, hr.mono (by omega), hk⟩
  have b2 : ((k : Int) == 2) = false := by simp; omega
  go_wp2
  go_ret
  exact ⟨l, rfl, by omega, hr.mono (by omega), hk⟩
set_option maxHeartbeats 2000000 in
theorem l5Bad_any (B g lim : Nat) (l : List UInt8) (m : Nat) (w : World) (hr : Rd w B g lim) (hlim : lim ≤ 4000) (hl : l.length ≤ 100) (hm : m ≤ 8) :
    Calls Try.prog 49 #[.pointer (some ⟨g, 0, none⟩), .agg #[.string (str l), .int .i64 (m : Int)]] w fun e w' => ∃ (l' : List UInt8) (n : Int), e = .returned (.agg #[.string (str l'), .int .i64 n]) ∧ (l'.length ≤ 2001 ∧ -1 ≤ n ∧ n ≤ 9) ∧ Rd w' B g (lim + 20) ∧ Keeps g w w' := by
  have hg := hr.lt
  go_enter Try.func49, Try.ntmps49
  go_wp2_with fail
  obtain ⟨W, hW⟩ : ∃ W, W = (w.alloc (.cells #[.string (str l), .int .i64 (m : Int)] 24)).alloc (.cells #[.string ⟨#[]⟩, .int .i64 0] 24) := ⟨_, rfl⟩
  have hb0 : Below w.heap.size w W := by rw [hW]; exact ((Below.refl _ _).alloc (Nat.le_refl _) _).alloc (by simp) _
  have hX : Two W w.heap.size (.string (str l)) (.int .i64 (m : Int)) := by rw [hW]; exact (Two.box _ _ _).alloc _
  have hY : Two W (w.heap.size + 1) (.string ⟨#[]⟩) (.int .i64 0) := by
    rw [hW]
    have := Two.box (u := w.alloc (.cells #[.string (str l), .int .i64 (m : Int)] 24)) (.string ⟨#[]⟩) (.int .i64 0) 24
    simpa using this
  have hrW := hr.below hb0
  have hk := (Keeps.refl g w).step hb0 hg.2
  rw [← hW]
  clear hW hr hb0
  refine (pick_any B g _ _ _ hrW (by omega) (by omega) (by omega)).mono ?_
  rintro e u1 ⟨k, rfl, hx, hr, hk1⟩
  replace hX := hX.keeps hk1 (by omega)
  replace hY := hY.keeps hk1 (by omega)
  replace hk := hk.trans hk1
  clear hx hk1 hrW
  by_cases h0 : k = 0
  · subst h0
    have HX := Lib.hid hX
    have HY := Lib.hid hY
    have HK := Lib.hid hk
    clear hX hY hk
    go_wp2_with fail
    refine (num_lit B g _ [0, 9, 8, -1] _ _ _ hr (by omega) rfl (by simp) (by simp)).mono ?_
    rintro e u2 ⟨n, hn, rfl, hr2, hk2⟩
    have hn2 : -1 ≤ n ∧ n ≤ 9 := by simp at hn; omega
    have hX := HX.out.keeps hk2 (by omega)
    have hY := (HY.out.keeps hk2 (by omega)).other (p := ⟨w.heap.size, 1, none⟩) (by show w.heap.size ≠ w.heap.size + 1; omega) (.int .i64 n)
    have hk := HK.out.trans hk2
    clear hn hk2 hr HX HY HK
    have hbs : Below w.heap.size u2 (((u2.setCell ⟨w.heap.size, 1, none⟩ (.int .i64 n)).setCell ⟨w.heap.size + 1, 0, none⟩ (.string (str l))).setCell ⟨w.heap.size + 1, 1, none⟩ (.int .i64 n)) :=
      ((Below.refl w.heap.size u2).setCell (p := ⟨w.heap.size, 1, none⟩) (Nat.le_refl _) _).trans (two_set _ (Nat.le_succ _) _ _)
    obtain ⟨c0, c1, cf, cl⟩ := hX
    obtain ⟨d0, d1, df, dl⟩ := hY
    have hR := (hr2.below' hbs hg.2)
    have hK := hk.step hbs hg.2
    clear hr2 hk hbs
    go_wp2
    exact bodyPost_ret (v := .agg #[.string (str l), .int .i64 n]) (by simp [results, Try.results49, go_sem, d0, d1]) rfl ⟨_, _, rfl, ⟨by omega, hn2⟩, hR.mono (by omega), hK⟩
  have b0 : ((k : Int) == 0) = false := by simpa using h0
  by_cases h1 : k = 1
  · subst h1
    obtain ⟨c0, c1, cf, cl⟩ := id hX
    have HX := Lib.hid hX
    have HY := Lib.hid hY
    have HK := Lib.hid hk
    have zl := str_size l
    have s1 : str l ++ (⟨#[50]⟩ : ByteArray) = str (l ++ [50]) := str_add l [50]
    obtain ⟨l2, hl2e, hl2⟩ : ∃ l2, l2 = l ++ [50] ∧ l2.length ≤ 101 := ⟨_, rfl, by simp; omega⟩
    rw [← hl2e] at s1
    clear hX hY hk hl2e
    go_wp2_with fail
    refine (l2Bad_any B g _ l2 _ hr (by omega) (by omega)).mono ?_
    rintro e u2 ⟨l3, rfl, hl3, hr2, hk2⟩
    clear c0 c1 cf s1
    have hX := HX.out.keeps hk2 (by omega)
    have hY := (HY.out.keeps hk2 (by omega)).other (p := ⟨w.heap.size, 0, none⟩) (by show w.heap.size ≠ w.heap.size + 1; omega) (.string (str l3))
    have hk := HK.out.trans hk2
    clear hk2 hr HX HY HK
    have hbs : Below w.heap.size u2 (((u2.setCell ⟨w.heap.size, 0, none⟩ (.string (str l3))).setCell ⟨w.heap.size + 1, 0, none⟩ (.string (str l3))).setCell ⟨w.heap.size + 1, 1, none⟩ (.int .i64 (m : Int))) :=
      ((Below.refl w.heap.size u2).setCell (p := ⟨w.heap.size, 0, none⟩) (Nat.le_refl _) _).trans (two_set _ (Nat.le_succ _) _ _)
    obtain ⟨c0, c1, cf, cl⟩ := hX
    obtain ⟨d0, d1, df, dl⟩ := hY
    have hR := (hr2.below' hbs hg.2)
    have hK := hk.step hbs hg.2
    clear hr2 hk hbs
    go_wp2
    exact bodyPost_ret (v := .agg #[.string (str l3), .int .i64 (m : Int)]) (by simp [results, Try.results49, go_sem, d0, d1]) rfl ⟨_, _, rfl, ⟨hl3, by omega, by omega⟩, hR.mono (by omega), hK⟩
  have b1 : ((k : Int) == 1) = false := by simp; omega
  have hbs : Below w.heap.size u1 ((u1.setCell ⟨w.heap.size + 1, 0, none⟩ (.string (str l))).setCell ⟨w.heap.size + 1, 1, none⟩ (.int .i64 (m : Int))) := two_set _ (Nat.le_succ _) _ _
  obtain ⟨c0, c1, cf, cl⟩ := hX
  obtain ⟨d0, d1, df, dl⟩ := hY
  have hR := (hr.below' hbs hg.2)
  have hK := hk.step hbs hg.2
  clear hr hk hbs
  go_wp2
  exact bodyPost_ret (v := .agg #[.string (str l), .int .i64 (m : Int)]) (by simp [results, Try.results49, go_sem, d0, d1]) rfl ⟨_, _, rfl, ⟨by omega, by omega, by omega⟩, hR.mono (by omega), hK⟩
set_option maxHeartbeats 4000000 in
theorem near_any (B g lim : Nat) (l : List UInt8) (m off : Nat) (w : World) (hr : Rd w B g lim) (hlim : lim ≤ 4000) (hp : pilotOK l (m : Int) = true) (hl : l.length ≤ 100) (hm : m ≤ 8) (ho : off ≤ 3000) :
    Calls Try.prog 48 #[.pointer (some ⟨g, 0, none⟩), .agg #[.string (str l), .int .i64 (m : Int)], .int .i64 (off : Int)] w fun e w' => ∃ n : Int, e = .returned (.int .i64 n) ∧ (-1 ≤ n ∧ n ≤ 9223372036854775807) ∧ Rd w' B g (lim + 10) ∧ Keeps g w w' := by
  have hg := hr.lt
  have zl := str_size l
  obtain ⟨L, hL, hL1, hL2⟩ : ∃ L : Nat, L = l.length * m ∧ 1 ≤ L ∧ L ≤ 800 := by
    have h := pilot_parts (s := str l) (n := (m : Int)) (by rw [str_list]; exact hp)
    refine ⟨_, rfl, ?_, ?_⟩
    · have := h.2.2.2.2.2.1
      rw [zl] at this
      exact_mod_cast this
    · exact Nat.le_trans (Nat.mul_le_mul hl hm) (by omega)
  have HLEN : Hid (∀ u : World, Calls Try.prog 54 #[.agg #[.string (str l), .int .i64 (m : Int)]] u fun e w' => e = .returned (.int .i64 (L : Int)) ∧ Below u.heap.size u w') := Lib.hid fun u => by
    have e : ((str l).size : Int) * (m : Int) = (L : Int) := by rw [zl, hL, Int.natCast_mul]
    have hh := l5Length_any (str l) (m : Int) u (by rw [e]; omega) (by rw [e]; omega)
    rw [e] at hh
    exact hh
  have HMOD : Hid (∀ (k : Int) (u : World), -1000000000 ≤ k → k ≤ 1000000000 → Calls Try.prog 84 #[.int .i64 k, .int .i64 (L : Int)] u fun e w' => e = .returned (.int .i64 (k % (L : Int))) ∧ u = w') := Lib.hid fun k u h1 h2 => mod_any k (L : Int) u (by omega) (by omega) h1 h2
  obtain ⟨W, hW⟩ : ∃ W, W = w.alloc (.cells #[.string (str l), .int .i64 (m : Int)] 24) := ⟨_, rfl⟩
  have hb0 : Below w.heap.size w W := by rw [hW]; exact (Below.refl _ _).alloc (Nat.le_refl _) _
  have hX : Two W w.heap.size (.string (str l)) (.int .i64 (m : Int)) := by rw [hW]; exact Two.box _ _ _
  have hgW : g < W.heap.size := Nat.lt_of_lt_of_le hg.2 hb0.size
  have hs0 : St B g lim W W := ⟨hr.below hb0, Keeps.refl _ _⟩
  have hk0 : Keeps g w W := (Keeps.refl g w).step hb0 hg.2
  clear hL
  go_enter Try.func48, Try.ntmps48
  go_wp2_with fail
  rw [← hW]
  clear hW hr hb0
  have HX := Lib.hid hX
  have HK := Lib.hid hk0
  clear hX hk0
  refine (pick_st B g _ _ _ hs0 (by omega) (by omega) (by omega)).mono ?_
  rintro e u1 ⟨k, rfl, hx, hs⟩
  clear hx hs0
  have hne : w.heap.size ≠ g := by omega
  by_cases h0 : k = 0
  · subst h0
    obtain ⟨c0, c1⟩ := two_st HX.out hne hs
    go_wp2_with fail
    refine (bel_st hs hgW (HLEN.out _)).mono ?_
    rintro e u2 ⟨rfl, hs2⟩
    clear c0 c1
    go_wp2_with fail
    refine (num_lit B g _ [-1, (L : Int), 9223372036854775807] _ _ _ hs2.1 (by omega) rfl (by simp) (by simp)).mono ?_
    rintro e u3 ⟨n, hn, rfl, hr3, hk3⟩
    have hn2 : -1 ≤ n ∧ n ≤ 9223372036854775807 := by simp at hn; omega
    clear hn
    go_wp2
    go_ret
    exact ⟨n, rfl, hn2, hr3.mono (by omega), HK.out.trans (hs2.2.trans hk3)⟩
  have b0 : ((k : Int) == 0) = false := by simpa using h0
  by_cases h13 : k = 1 ∨ k = 2 ∨ k = 3
  · have hmod : ∀ j : Nat, ∃ q : Nat, (j : Int) % (L : Int) = (q : Int) ∧ q < L := fun j => ⟨j % L, by simp, Nat.mod_lt _ (by omega)⟩
    have HQ := Lib.hid hmod
    clear hmod
    have hL0 : ¬ (L : Int) = 0 := by omega
    have hL0b : ((L : Int) == 0) = false := by simpa using hL0
    have hL0n : ¬ L = 0 := by omega
    rcases h13 with rfl | rfl | rfl
    all_goals
      go_wp2
      go_region_held3 (fun u => u.cell? ⟨w.heap.size, 0, none⟩ = some (.string (str l)) ∧ u.cell? ⟨w.heap.size, 1, none⟩ = some (.int .i64 (m : Int))) (exact two_st HX.out hne (by first | assumption | exact St.drew (by assumption))) (first | (go_at_call 55; refine (pick_st B g _ _ (W0 := W) _ (by first | assumption | exact St.drew (by assumption)) (by omega) (by omega) (by omega)).mono ?_; rintro e v1 ⟨j, rfl, hj, hv1⟩; obtain ⟨q, hq, hqL⟩ := HQ.out j; have ht : Int.tmod (j : Int) (L : Int) = (q : Int) := by { rw [← hq]; exact Int.tmod_eq_emod_of_nonneg (by omega) }; have hw5 : IntKind.i64.wrap (q : Int) = (q : Int) := IntWalk.i64_in _ (by omega)) | (go_at_call 54; refine (bel_st (W0 := W) (by first | assumption | exact St.drew (by assumption)) hgW (HLEN.out _)).mono ?_; rintro e v2 ⟨rfl, hv2⟩))
      all_goals
        go_wp2
        go_ret
        exact ⟨_, rfl, by omega, (by first | exact hv2.1.mono (by omega) | exact hv1.1.mono (by omega)), HK.out.trans (by first | exact hv2.2 | exact hv1.2)⟩
  have b1 : ((k : Int) == 1) = false := by simp; omega
  have b2 : ((k : Int) == 2) = false := by simp; omega
  have b3 : ((k : Int) == 3) = false := by simp; omega
  have w1 : IntKind.i64.wrap (2 * (m : Int)) = 2 * (m : Int) := IntWalk.i64_in _ (by omega)
  have w2 : IntKind.i64.wrap (2 * (m : Int) + 1) = 2 * (m : Int) + 1 := IntWalk.i64_in _ (by omega)
  go_wp2
  go_region_held3 (fun u => u.cell? ⟨w.heap.size, 0, none⟩ = some (.string (str l)) ∧ u.cell? ⟨w.heap.size, 1, none⟩ = some (.int .i64 (m : Int))) (exact two_st HX.out hne (by first | assumption | exact St.drew (by assumption))) (first | (go_at_call 55; refine (pick_st B g _ _ (W0 := W) _ (by first | assumption | exact St.drew (by assumption)) (by omega) (by omega) (by omega)).mono ?_; rintro e v1 ⟨j, rfl, hj, hv1⟩; have hj2 : j ≤ 16 := by { have := hj.1 (by omega); omega }; have w3 : IntKind.i64.wrap ((off : Int) + (j : Int)) = (off : Int) + (j : Int) := IntWalk.i64_in _ (by omega); have w4 : IntKind.i64.wrap ((off : Int) + (j : Int) - (m : Int)) = (off : Int) + (j : Int) - (m : Int) := IntWalk.i64_in _ (by omega)) | (go_at_call 54; refine (bel_st (W0 := W) (by first | assumption | exact St.drew (by assumption)) hgW (HLEN.out _)).mono ?_; rintro e v2 ⟨rfl, hv2⟩) | (go_at_call 84; refine (same_st (W0 := W) (by first | assumption | exact St.drew (by assumption)) (HMOD.out _ _ (by omega) (by omega))).mono ?_; rintro e v3 ⟨rfl, hv3⟩))
  all_goals
    have m1 := Int.emod_nonneg ((off : Int) + (j : Int) - (m : Int)) (show (L : Int) ≠ 0 by omega)
    have m2 := Int.emod_lt_of_pos ((off : Int) + (j : Int) - (m : Int)) (show 0 < (L : Int) by omega)
    go_wp2
    go_ret
    exact ⟨_, rfl, by omega, hv3.1.mono (by omega), HK.out.trans hv3.2⟩
end Go.Proofs.Ytholipfekecloaa
