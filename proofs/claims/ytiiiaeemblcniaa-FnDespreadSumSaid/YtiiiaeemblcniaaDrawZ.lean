/- Weak contracts of the functions that draw registers, sequences and codes. -/
import Derived.Test.YtiiiaeemblcniaaDrawY
import Derived.Test.YtiiiaeemblcniaaReg
import Derived.Test.YtiiiaeemblcniaaTri
namespace Go.Proofs.Ytiiiaeemblcniaa
set_option maxRecDepth 20000
open Go.ChangeShapes Go.WideShapes Go.ChangeAt Go.RowKit
set_option linter.unusedVariables false
set_option linter.unusedSimpArgs false

set_option maxHeartbeats 4000000 in
theorem some2_any (B g lim : Nat) (w : World) (hr : Rd w B g lim) (hlim : lim ≤ 10000) :
    Calls Try.prog 87 #[.pointer (some ⟨g, 0, none⟩)] w fun e w' => ∃ n T S P : Nat, e = .returned (.agg #[.int .i64 (n : Int), .int .i64 (T : Int), .int .i64 (S : Int)]) ∧ (2 ≤ n ∧ n ≤ 8 ∧ P = 2 ^ n ∧ T < P ∧ S < P) ∧ Rd w' B g (lim + 10) ∧ Keeps g w w' := by
  have hg := hr.lt
  have hT := Tri.box (u := w) 0 0 0 98
  have hk : Keeps g w (w.alloc (.cells #[.int .i64 0, .int .i64 0, .int .i64 0] 98)) := (Keeps.refl g w).step ((Below.refl _ _).alloc (Nat.le_refl _) _) hg.2
  go_enter Try.func87, Try.ntmps87
  go_wp2_with fail
  obtain ⟨W, hW⟩ : ∃ W, W = w.alloc (.cells #[.int .i64 0, .int .i64 0, .int .i64 0] 98) := ⟨_, rfl⟩
  have hWs : W.heap.size = w.heap.size + 1 := by rw [hW]; simp
  have hrW : Rd W B g lim := by rw [hW]; exact hr.alloc _
  rw [← hW] at hT hk
  rw [← hW, ← hWs]
  have HT := Lib.hid hT
  have HK := Lib.hid hk
  clear hT hk hW hr
  refine (num_lit B g _ [3, 4, 5, 2, 6, 7, 8] _ _ _ hrW (by omega) rfl (by simp) (by simp)).mono ?_
  rintro e u1 ⟨n, hn, rfl, hr1, hk1⟩
  obtain ⟨j, rfl, hj⟩ : ∃ j : Nat, n = (j : Int) + 2 ∧ j ≤ 6 := by
    refine ⟨(n - 2).toNat, ?_, ?_⟩ <;> (simp at hn; omega)
  have hT := HT.out.keeps hk1 (by omega)
  have hk := HK.out.trans hk1
  clear hn hk1 HT HK hrW
  have H2 : Hid (∀ u : World, Calls Try.prog 79 #[.int .i64 ((j : Int) + 2)] u fun e w' => e = .returned (.int .i64 ((2 ^ (j + 2) : Nat) : Int)) ∧ u = w') := Lib.hid fun u => two_any (j + 2) u (by omega)
  obtain ⟨P, hP, hP1, hP2⟩ : ∃ P : Nat, P = 2 ^ (j + 2) ∧ 4 ≤ P ∧ P ≤ 256 := ⟨_, rfl, Nat.pow_le_pow_right (show 0 < 2 by omega) (show 2 ≤ j + 2 by omega), Nat.pow_le_pow_right (show 0 < 2 by omega) (show j + 2 ≤ 8 by omega)⟩
  rw [← hP] at H2
  have HP := Lib.hid hP
  have htab : ∀ x : Int, x = ([3, 3, 3, 5, 3, 3, 29] : List Int).getD j 0 → ∃ T : Nat, x = (T : Int) ∧ T < P := by
    intro x hx
    rw [hP, hx]
    rcases (show j = 0 ∨ j = 1 ∨ j = 2 ∨ j = 3 ∨ j = 4 ∨ j = 5 ∨ j = 6 by omega) with rfl | rfl | rfl | rfl | rfl | rfl | rfl
    · exact ⟨3, rfl, by decide⟩
    · exact ⟨3, rfl, by decide⟩
    · exact ⟨3, rfl, by decide⟩
    · exact ⟨5, rfl, by decide⟩
    · exact ⟨3, rfl, by decide⟩
    · exact ⟨3, rfl, by decide⟩
    · exact ⟨29, rfl, by decide⟩
  have HTAB := Lib.hid htab
  clear hP htab
  go_wp2_with fail
  refine (H2.out _).mono ?_
  rintro e w' ⟨rfl, rfl⟩
  go_wp2_with fail
  refine (pick_any B g _ _ _ hr1 (by omega) (by omega) (by omega)).mono ?_
  rintro e u2 ⟨k, rfl, hx, hr2, hk2⟩
  have hkl : k + 1 < P := by have := hx.1 (by omega); omega
  replace hT := hT.keeps hk2 (by omega)
  replace hk := hk.trans hk2
  clear hx hk2 hr1
  go_wp2_with fail
  refine (pick_any B g _ _ _ hr2 (by omega) (by omega) (by omega)).mono ?_
  rintro e u3 ⟨i, rfl, hx, hr3, hk3⟩
  replace hT := hT.keeps hk3 (by omega)
  replace hk := hk.trans hk3
  clear hx hk3 hr2
  by_cases h0 : i = 0
  · subst h0
    have hcell : (u3.alloc (.cells #[.int .i64 3, .int .i64 3, .int .i64 3, .int .i64 5, .int .i64 3, .int .i64 3, .int .i64 29] 3)).cell? ⟨u3.heap.size, j, none⟩ = some (.int .i64 ([3, 3, 3, 5, 3, 3, 29].getD j 0)) := by
      rcases (show j = 0 ∨ j = 1 ∨ j = 2 ∨ j = 3 ∨ j = 4 ∨ j = 5 ∨ j = 6 by omega) with rfl | rfl | rfl | rfl | rfl | rfl | rfl <;> simp
    obtain ⟨T, hT1, hT2⟩ := HTAB.out _ rfl
    rw [hT1] at hcell
    clear hT1
    have hr3' := hr3.alloc (.cells #[.int .i64 3, .int .i64 3, .int .i64 3, .int .i64 5, .int .i64 3, .int .i64 3, .int .i64 29] 3)
    have hT' := Lib.hid (hT.alloc (.cells #[.int .i64 3, .int .i64 3, .int .i64 3, .int .i64 5, .int .i64 3, .int .i64 3, .int .i64 29] 3))
    have hk' := Lib.hid (hk.after ((Below.refl _ _).alloc (Nat.le_refl _) (.cells #[.int .i64 3, .int .i64 3, .int .i64 3, .int .i64 5, .int .i64 3, .int .i64 3, .int .i64 29] 3)))
    clear hT hk
    go_wp2_with fail
    refine (H2.out _).mono ?_
    rintro e w' ⟨rfl, rfl⟩
    go_wp2_with fail
    refine (pick_any B g _ _ _ hr3' (by omega) (by omega) (by omega)).mono ?_
    rintro e u4 ⟨s, rfl, hx, hr4, hk4⟩
    have hsP : s < P := by have := hx.1 (by omega); omega
    have hT := hT'.out.keeps hk4 (by omega)
    have hk := hk'.out.trans hk4
    clear hx hk4 hr3 hr3' hT' hk' hcell
    have hbs : Below w.heap.size u4 (((u4.setCell ⟨w.heap.size, 0, none⟩ (.int .i64 ((j : Int) + 2))).setCell ⟨w.heap.size, 1, none⟩ (.int .i64 (T : Int))).setCell ⟨w.heap.size, 2, none⟩ (.int .i64 (s : Int))) := tri_set _ _ _ _ _
    obtain ⟨c0, c1, c2, cf, cl⟩ := hT
    go_wp2
    exact bodyPost_ret (v := .agg #[.int .i64 ((j : Int) + 2), .int .i64 (T : Int), .int .i64 (s : Int)]) (by simp [results, Try.results87, go_sem, c0, c1, c2]) rfl ⟨j + 2, T, s, P, rfl, ⟨by omega, by omega, HP.out, hT2, hsP⟩, (hr4.below' hbs hg.2).mono (by omega), hk.step hbs hg.2⟩
  · have b0 : ((i : Int) == 0) = false := by simpa using h0
    go_wp2_with fail
    refine (H2.out _).mono ?_
    rintro e w' ⟨rfl, rfl⟩
    go_wp2_with fail
    refine (pick_any B g _ _ _ hr3 (by omega) (by omega) (by omega)).mono ?_
    rintro e u4 ⟨s, rfl, hx, hr4, hk4⟩
    have hsP : s < P := by have := hx.1 (by omega); omega
    replace hT := hT.keeps hk4 (by omega)
    replace hk := hk.trans hk4
    clear hx hk4 hr3
    have hbs : Below w.heap.size u4 (((u4.setCell ⟨w.heap.size, 0, none⟩ (.int .i64 ((j : Int) + 2))).setCell ⟨w.heap.size, 1, none⟩ (.int .i64 (1 + (k : Int)))).setCell ⟨w.heap.size, 2, none⟩ (.int .i64 (s : Int))) := tri_set _ _ _ _ _
    obtain ⟨c0, c1, c2, cf, cl⟩ := hT
    go_wp2
    exact bodyPost_ret (v := .agg #[.int .i64 ((j : Int) + 2), .int .i64 (1 + (k : Int)), .int .i64 (s : Int)]) (by simp [results, Try.results87, go_sem, c0, c1, c2]) rfl ⟨j + 2, 1 + k, s, P, by simp, ⟨by omega, by omega, HP.out, by omega, hsP⟩, (hr4.below' hbs hg.2).mono (by omega), hk.step hbs hg.2⟩
theorem maxL_some4 : ∀ n : Fin 4, 1 ≤ (maxL (n + 2)).length := by decide +kernel
theorem tri_st {B g lim b : Nat} {W0 u : World} {x y z : Int} (h : Tri W0 b x y z) (hne : b ≠ g) (hs : St B g lim W0 u) : u.cell? ⟨b, 0, none⟩ = some (.int .i64 x) ∧ u.cell? ⟨b, 1, none⟩ = some (.int .i64 y) ∧ u.cell? ⟨b, 2, none⟩ = some (.int .i64 z) := by
  have := h.keeps hs.2 hne
  exact ⟨this.1, this.2.1, this.2.2.1⟩
set_option maxHeartbeats 8000000 in
theorem seq2_any (B g lim : Nat) (w : World) (hr : Rd w B g lim) (hlim : lim ≤ 5000) :
    Calls Try.prog 76 #[.pointer (some ⟨g, 0, none⟩)] w fun e w' => ∃ l : List UInt8, e = .returned (.string (str l)) ∧ l.length ≤ 100 ∧ Rd w' B g (lim + 300) ∧ Keeps g w w' := by
  have hg := hr.lt
  have hk := Keeps.refl g w
  go_enter Try.func76, Try.ntmps76
  go_wp2_with fail
  refine (pick_any B g lim _ _ hr (by omega) (by omega) (by omega)).mono ?_
  rintro e u17 ⟨k, rfl, hx, hr', hk'⟩
  replace hk := hk.trans hk'
  clear hk' hr
  have hr := hr'
  clear hr'
  clear hx
  by_cases h0 : k = 0
  · subst h0
    go_wp2_with fail
    refine (some2_any _ _ _ _ hr (by omega)).mono ?_
    rintro e x2 ⟨n, T, S, P, rfl, ⟨hn2, hn8, hP, hT, hS⟩, hr', hk'⟩
    replace hk := hk.trans hk'
    replace hr := hr'
    clear hk' hr'
    have hP2 : P ≤ 256 := pow_le hP hn8
    have HRUN : Hid (∀ (c : Nat) (u : World), c ≤ 600 → Calls Try.prog 88 #[.agg #[.int .i64 (n : Int), .int .i64 (T : Int), .int .i64 (S : Int)], .int .i64 (c : Int)] u fun e w' => e = .returned (.string (str (runL n T S c))) ∧ Below u.heap.size u w') := Lib.hid fun c u hc => runS_any n T S P c u hP hn2 hn8 hT hS hc
    clear hP hT hS
    obtain ⟨V, hV⟩ : ∃ V, V = x2.alloc (.cells #[.int .i64 (n : Int), .int .i64 (T : Int), .int .i64 (S : Int)] 98) := ⟨_, rfl⟩
    have hbV : Below x2.heap.size x2 V := by rw [hV]; exact (Below.refl _ _).alloc (Nat.le_refl _) _
    have hX : Tri V x2.heap.size (n : Int) (T : Int) (S : Int) := by rw [hV]; exact Tri.box _ _ _ _
    have hgV : g < V.heap.size := Nat.lt_of_lt_of_le hr.lt.2 hbV.size
    have hne : x2.heap.size ≠ g := by have := hr.lt; omega
    have hst : St B g (lim + 1 + 10) V V := ⟨hr.below hbV, Keeps.refl _ _⟩
    have HK := Lib.hid (hk.after hbV hg.2)
    have HX := Lib.hid hX
    clear hr hk hX hbV
    go_wp2
    rw [← hV]
    clear hV
    refine wp_region_held_drew (S := (fun u => u.cell? ⟨x2.heap.size, 0, none⟩ = some (.int .i64 (n : Int)) ∧ u.cell? ⟨x2.heap.size, 1, none⟩ = some (.int .i64 (T : Int)) ∧ u.cell? ⟨x2.heap.size, 2, none⟩ = some (.int .i64 (S : Int)))) (by kernel_rfl) ?_ (fun hHeld => ?_)
    · (try dsimp only)
      exact tri_st HX.out hne (by first | assumption | exact St.drew (by assumption))
    first
      | (refine wpAnyH_take (i := 0) (oi := ⟨(some 13), _, _, _, _, _⟩) (v := ?_) rfl (by kernel_rfl) (by kernel_rfl) (by kernel_rfl) (fun _ _ _ h => h) (Or.inl ⟨by rfl, ?_⟩) (by assumption) ?_; rotate_left; (focus (intro ww hSw; (try dsimp only at hSw); go_simp; (try with_reducible rfl))))
      | (refine wpAnyH_take (i := 0) (oi := ⟨(some 13), _, _, _, _, _⟩) (v := undef) rfl (by kernel_rfl) (by kernel_rfl) (by kernel_rfl) (fun _ _ _ h => h) (Or.inr ⟨by rfl, rfl⟩) (by assumption) ?_)
    (try simp only [Act.put, List.setIfInBounds_toArray, List.set_cons_zero, List.set_cons_succ])
    first
      | (refine wpAnyH_take (i := 1) (oi := ⟨(some 14), _, _, _, _, _⟩) (v := ?_) rfl (by kernel_rfl) (by kernel_rfl) (by kernel_rfl) (fun _ _ _ h => h) (Or.inl ⟨by rfl, ?_⟩) (by assumption) ?_; rotate_left; (focus (intro ww hSw; (try dsimp only at hSw); go_simp; (try with_reducible rfl))))
      | (refine wpAnyH_take (i := 1) (oi := ⟨(some 14), _, _, _, _, _⟩) (v := undef) rfl (by kernel_rfl) (by kernel_rfl) (by kernel_rfl) (fun _ _ _ h => h) (Or.inr ⟨by rfl, rfl⟩) (by assumption) ?_)
    (try simp only [Act.put, List.setIfInBounds_toArray, List.set_cons_zero, List.set_cons_succ])
    refine wpAnyH_ready (rs := [2]) (by kernel_rfl) (by simp) ?_
    refine AllReadyH.cons (o := ⟨(some 15), _, _, _, _, _⟩) rfl (fun K hK => ?_) AllReadyH.nil
    go_simp
    refine (pick_st B g _ _ (W0 := V) _ (by first | assumption | exact St.drew (by assumption)) (by omega) (by omega) (by omega)).mono ?_
    rintro e q1 ⟨j, rfl, hj, hq1⟩
    have hj2 : j ≤ 39 := by { have := hj.1 (by omega); omega }
    have ew : IntKind.i64.wrap (1 + (j : Int)) = ((1 + j : Nat) : Int) := by { rw [show (1 + (j : Int)) = ((1 + j : Nat) : Int) by simp]; exact IntWalk.i64_in _ (by omega) }
    clear hj hst
    go_wp2_with fail
    refine hK.out _ _ ?_ (fun hHeld => ?_)
    · (try dsimp only)
      exact tri_st HX.out hne (by first | assumption | exact St.drew (by assumption))
    clear hK K
    (try simp only [Act.put, List.setIfInBounds_toArray, List.set_cons_zero, List.set_cons_succ])
    first
      | (refine wpAnyH_take (i := 3) (oi := ⟨(some 16), _, _, _, _, _⟩) (v := ?_) rfl (by kernel_rfl) (by kernel_rfl) (by kernel_rfl) (fun _ _ _ h => h) (Or.inl ⟨by rfl, ?_⟩) (by assumption) ?_; rotate_left; (focus (intro ww hSw; (try dsimp only at hSw); go_simp; (try with_reducible rfl))))
      | (refine wpAnyH_take (i := 3) (oi := ⟨(some 16), _, _, _, _, _⟩) (v := undef) rfl (by kernel_rfl) (by kernel_rfl) (by kernel_rfl) (fun _ _ _ h => h) (Or.inr ⟨by rfl, rfl⟩) (by assumption) ?_)
    (try simp only [Act.put, List.setIfInBounds_toArray, List.set_cons_zero, List.set_cons_succ])
    refine wpAnyH_ready (rs := [4]) (by kernel_rfl) (by simp) ?_
    refine AllReadyH.cons (o := ⟨(some 17), _, _, _, _, _⟩) rfl (fun K hK => ?_) AllReadyH.nil
    go_simp
    refine (bel_st (W0 := V) (by first | assumption | exact St.drew (by assumption)) hgV (HRUN.out (1 + j) _ (by omega))).mono ?_
    rintro e q2 ⟨rfl, hq2⟩
    clear hq1
    go_wp2_with fail
    refine hK.out _ _ ?_ (fun hHeld => ?_)
    · (try dsimp only)
      exact tri_st HX.out hne (by first | assumption | exact St.drew (by assumption))
    clear hK K
    (try simp only [Act.put, List.setIfInBounds_toArray, List.set_cons_zero, List.set_cons_succ])
    first
      | (refine wpAnyH_take (i := 5) (oi := ⟨(some 2), _, _, _, _, _⟩) (v := ?_) rfl (by kernel_rfl) (by kernel_rfl) (by kernel_rfl) (fun _ _ _ h => h) (Or.inl ⟨by rfl, ?_⟩) (by assumption) ?_; rotate_left; (focus (intro ww hSw; (try dsimp only at hSw); go_simp; (try with_reducible rfl))))
      | (refine wpAnyH_take (i := 5) (oi := ⟨(some 2), _, _, _, _, _⟩) (v := undef) rfl (by kernel_rfl) (by kernel_rfl) (by kernel_rfl) (fun _ _ _ h => h) (Or.inr ⟨by rfl, rfl⟩) (by assumption) ?_)
    (try simp only [Act.put, List.setIfInBounds_toArray, List.set_cons_zero, List.set_cons_succ])
    refine wpAnyH_done (by kernel_rfl) ?_ _
    skip
    go_wp2
    go_ret
    exact ⟨_, rfl, by rw [runL_len]; omega, hq2.1.mono (by omega), HK.out.trans hq2.2⟩
  have b0 : ((k : Int) == 0) = false := by simpa using h0
  by_cases h1 : k = 1
  · subst h1
    go_wp2_with fail
    refine (num_lit _ _ _ [3, 4, 5, 2] _ _ _ hr (by omega) rfl (by simp) (by simp)).mono ?_
    rintro e x1 ⟨n0, hn, rfl, hr1, hk1⟩
    obtain ⟨n, rfl, hn2, hn5⟩ : ∃ n : Nat, n0 = (n : Int) ∧ 2 ≤ n ∧ n ≤ 5 := by
      refine ⟨n0.toNat, ?_, ?_, ?_⟩ <;> (simp at hn; omega)
    replace hk := hk.trans hk1
    clear hn hk1 hr
    go_wp2_with fail
    refine (taps_any n (2 ^ n) _ rfl hn2 (by omega)).mono ?_
    rintro e x2 ⟨gl, cap, rfl, hown, hb2⟩
    have hr2 := hr1.below hb2
    replace hk := hk.after hb2
    have hgl := hown.lt
    have hml1 : 1 ≤ (maxL n).length := by
      have := maxL_some4 ⟨n - 2, by omega⟩
      simpa [show n - 2 + 2 = n by omega] using this
    have hml2 : (maxL n).length ≤ 32 := by
      have h1 := maxTo_len n (2 ^ n)
      have h2 : 2 ^ n ≤ 2 ^ 5 := Nat.pow_le_pow_right (by omega) hn5
      unfold maxL
      omega
    have hne : gl ≠ g := by have := hr1.lt; omega
    obtain ⟨P, hP, hP1, hP2⟩ : ∃ P : Nat, P = 2 ^ n ∧ 4 ≤ P ∧ P ≤ 32 := ⟨_, rfl, Nat.pow_le_pow_right (show 0 < 2 by omega) (show 2 ≤ n by omega), Nat.pow_le_pow_right (show 0 < 2 by omega) (show n ≤ 5 by omega)⟩
    have H2 : Hid (∀ u : World, Calls Try.prog 79 #[.int .i64 (n : Int)] u fun e w' => e = .returned (.int .i64 (P : Int)) ∧ u = w') := Lib.hid fun u => by rw [hP]; exact two_any n u (by omega)
    have HRUN : Hid (∀ (T c : Nat) (u : World), T < P → c ≤ 600 → Calls Try.prog 88 #[.agg #[.int .i64 (n : Int), .int .i64 (T : Int), .int .i64 1], .int .i64 (c : Int)] u fun e w' => e = .returned (.string (str (runL n T 1 c))) ∧ Below u.heap.size u w') := Lib.hid fun T c u hT hc => runS_any n T 1 P c u hP hn2 (by omega) hT (by omega) hc
    obtain ⟨G, hG⟩ : ∃ G : Nat → Int, G = fun k => (maxL n).getD k 0 := ⟨_, rfl⟩
    have HTB : Hid (∀ (lm : Nat) (u : World), St B g lm x2 u → ∀ k, k < (maxL n).length → u.cell? ⟨gl, k, none⟩ = some (.int .i64 (G k))) := Lib.hid fun lm u hu k hkl => by
      have hcell := (hown.keeps hu.2 hne).cell hkl
      rw [intV_at _ _ hkl] at hcell
      rw [hG]
      exact hcell
    have HG : Hid (∀ k, k < (maxL n).length → ∃ T : Nat, G k = (T : Int) ∧ T < P) := Lib.hid fun k hkl => by
      obtain ⟨T, hTe, hT1, hTP, _⟩ : ∃ m : Nat, (maxL n).getD k 0 = (m : Int) ∧ 1 ≤ m ∧ m < 2 ^ n ∧ perOf n m 1 = ((2 ^ n : Nat) : Int) - 1 := by
        have hmem : (maxL n).getD k 0 ∈ maxL n := by rw [List.getD_eq_getElem?_getD, List.getElem?_eq_getElem hkl]; exact List.getElem_mem hkl
        exact maxTo_mem hmem
      rw [hG]
      exact ⟨T, hTe, by omega⟩
    have hst : St B g (lim + 1 + 1) x2 x2 := ⟨hr2, Keeps.refl _ _⟩
    have hgx : g < x2.heap.size := hr2.lt.2
    have HK := Lib.hid hk
    obtain ⟨M, hM⟩ : ∃ M, M = (maxL n).length := ⟨_, rfl⟩
    rw [← hM] at hml1 hml2 HTB HG
    have HM := Lib.hid hM
    rw [← hM]
    obtain ⟨Q, hQ, hQ31⟩ : ∃ Q : Nat, (P : Int) - 1 = (Q : Int) ∧ Q ≤ 31 := ⟨P - 1, by omega, by omega⟩
    have ew : IntKind.i64.wrap ((P : Int) - 1) = (Q : Int) := by rw [hQ]; exact IntWalk.i64_in _ (by omega)
    clear hM hP hr2 hk hown hb2 hr1 hQ hG
    go_wp2
    refine wp_region_held_drew (S := (fun u => ∀ k, k < M → u.cell? ⟨gl, k, none⟩ = some (.int .i64 (G k)))) (by kernel_rfl) ?_ (fun hHeld => ?_)
    · (try dsimp only)
      exact HTB.out _ _ (by first | assumption | exact St.drew (by assumption))
    first
      | (refine wpAnyH_take (i := 0) (oi := ⟨(some 25), _, _, _, _, _⟩) (v := ?_) rfl (by kernel_rfl) (by kernel_rfl) (by kernel_rfl) (fun _ _ _ h => h) (Or.inl ⟨by rfl, ?_⟩) (by assumption) ?_; rotate_left; (focus (intro ww hSw; (try dsimp only at hSw); go_simp; (try with_reducible rfl))))
      | (refine wpAnyH_take (i := 0) (oi := ⟨(some 25), _, _, _, _, _⟩) (v := undef) rfl (by kernel_rfl) (by kernel_rfl) (by kernel_rfl) (fun _ _ _ h => h) (Or.inr ⟨by rfl, rfl⟩) (by assumption) ?_)
    (try simp only [Act.put, List.setIfInBounds_toArray, List.set_cons_zero, List.set_cons_succ])
    first
      | (refine wpAnyH_take (i := 1) (oi := ⟨(some 26), _, _, _, _, _⟩) (v := ?_) rfl (by kernel_rfl) (by kernel_rfl) (by kernel_rfl) (fun _ _ _ h => h) (Or.inl ⟨by rfl, ?_⟩) (by assumption) ?_; rotate_left; (focus (intro ww hSw; (try dsimp only at hSw); go_simp; (try with_reducible rfl))))
      | (refine wpAnyH_take (i := 1) (oi := ⟨(some 26), _, _, _, _, _⟩) (v := undef) rfl (by kernel_rfl) (by kernel_rfl) (by kernel_rfl) (fun _ _ _ h => h) (Or.inr ⟨by rfl, rfl⟩) (by assumption) ?_)
    (try simp only [Act.put, List.setIfInBounds_toArray, List.set_cons_zero, List.set_cons_succ])
    first
      | (refine wpAnyH_take (i := 2) (oi := ⟨(some 27), _, _, _, _, _⟩) (v := ?_) rfl (by kernel_rfl) (by kernel_rfl) (by kernel_rfl) (fun _ _ _ h => h) (Or.inl ⟨by rfl, ?_⟩) (by assumption) ?_; rotate_left; (focus (intro ww hSw; (try dsimp only at hSw); go_simp; (try with_reducible rfl))))
      | (refine wpAnyH_take (i := 2) (oi := ⟨(some 27), _, _, _, _, _⟩) (v := undef) rfl (by kernel_rfl) (by kernel_rfl) (by kernel_rfl) (fun _ _ _ h => h) (Or.inr ⟨by rfl, rfl⟩) (by assumption) ?_)
    (try simp only [Act.put, List.setIfInBounds_toArray, List.set_cons_zero, List.set_cons_succ])
    first
      | (refine wpAnyH_take (i := 3) (oi := ⟨(some 28), _, _, _, _, _⟩) (v := ?_) rfl (by kernel_rfl) (by kernel_rfl) (by kernel_rfl) (fun _ _ _ h => h) (Or.inl ⟨by rfl, ?_⟩) (by assumption) ?_; rotate_left; (focus (intro ww hSw; (try dsimp only at hSw); go_simp; (try with_reducible rfl))))
      | (refine wpAnyH_take (i := 3) (oi := ⟨(some 28), _, _, _, _, _⟩) (v := undef) rfl (by kernel_rfl) (by kernel_rfl) (by kernel_rfl) (fun _ _ _ h => h) (Or.inr ⟨by rfl, rfl⟩) (by assumption) ?_)
    (try simp only [Act.put, List.setIfInBounds_toArray, List.set_cons_zero, List.set_cons_succ])
    first
      | (refine wpAnyH_take (i := 4) (oi := ⟨(some 29), _, _, _, _, _⟩) (v := ?_) rfl (by kernel_rfl) (by kernel_rfl) (by kernel_rfl) (fun _ _ _ h => h) (Or.inl ⟨by rfl, ?_⟩) (by assumption) ?_; rotate_left; (focus (intro ww hSw; (try dsimp only at hSw); go_simp; (try with_reducible rfl))))
      | (refine wpAnyH_take (i := 4) (oi := ⟨(some 29), _, _, _, _, _⟩) (v := undef) rfl (by kernel_rfl) (by kernel_rfl) (by kernel_rfl) (fun _ _ _ h => h) (Or.inr ⟨by rfl, rfl⟩) (by assumption) ?_)
    (try simp only [Act.put, List.setIfInBounds_toArray, List.set_cons_zero, List.set_cons_succ])
    first
      | (refine wpAnyH_take (i := 9) (oi := ⟨(some 34), _, _, _, _, _⟩) (v := ?_) rfl (by kernel_rfl) (by kernel_rfl) (by kernel_rfl) (fun _ _ _ h => h) (Or.inl ⟨by rfl, ?_⟩) (by assumption) ?_; rotate_left; (focus (intro ww hSw; (try dsimp only at hSw); go_simp; (try with_reducible rfl))))
      | (refine wpAnyH_take (i := 9) (oi := ⟨(some 34), _, _, _, _, _⟩) (v := undef) rfl (by kernel_rfl) (by kernel_rfl) (by kernel_rfl) (fun _ _ _ h => h) (Or.inr ⟨by rfl, rfl⟩) (by assumption) ?_)
    (try simp only [Act.put, List.setIfInBounds_toArray, List.set_cons_zero, List.set_cons_succ])
    refine wpAnyH_ready (rs := [5]) (by kernel_rfl) (by simp) ?_
    refine AllReadyH.cons (o := ⟨(some 30), _, _, _, _, _⟩) rfl (fun K hK => ?_) AllReadyH.nil
    go_simp
    refine (pick_st B g _ _ (W0 := x2) _ (by first | assumption | exact St.drew (by assumption)) (by omega) (by omega) (by omega)).mono ?_
    rintro e q1 ⟨j, rfl, hj, hq1⟩
    have hjM : j < M := by { have := hj.1 (by omega); omega }
    clear hj hst
    go_wp2_with fail
    refine hK.out _ _ ?_ (fun hHeld => ?_)
    · (try dsimp only)
      exact HTB.out _ _ (by first | assumption | exact St.drew (by assumption))
    clear hK K
    (try simp only [Act.put, List.setIfInBounds_toArray, List.set_cons_zero, List.set_cons_succ])
    first
      | (refine wpAnyH_take (i := 6) (oi := ⟨(some 31), _, _, _, _, _⟩) (v := ?_) rfl (by kernel_rfl) (by kernel_rfl) (by kernel_rfl) (fun _ _ _ h => h) (Or.inl ⟨by rfl, ?_⟩) (by assumption) ?_; rotate_left; (focus (intro ww hSw; (try dsimp only at hSw); go_simp; (try with_reducible rfl))))
      | (refine wpAnyH_take (i := 6) (oi := ⟨(some 31), _, _, _, _, _⟩) (v := undef) rfl (by kernel_rfl) (by kernel_rfl) (by kernel_rfl) (fun _ _ _ h => h) (Or.inr ⟨by rfl, rfl⟩) (by assumption) ?_)
    (try simp only [Act.put, List.setIfInBounds_toArray, List.set_cons_zero, List.set_cons_succ])
    first
      | (refine wpAnyH_take (i := 7) (oi := ⟨(some 32), _, _, _, _, _⟩) (v := ?_) rfl (by kernel_rfl) (by kernel_rfl) (by kernel_rfl) (fun _ _ _ h => h) (Or.inl ⟨by rfl, ?_⟩) (by assumption) ?_; rotate_left; (focus (intro ww hSw; (try dsimp only at hSw); go_simp; (try with_reducible rfl))))
      | (refine wpAnyH_take (i := 7) (oi := ⟨(some 32), _, _, _, _, _⟩) (v := undef) rfl (by kernel_rfl) (by kernel_rfl) (by kernel_rfl) (fun _ _ _ h => h) (Or.inr ⟨by rfl, rfl⟩) (by assumption) ?_)
    (try simp only [Act.put, List.setIfInBounds_toArray, List.set_cons_zero, List.set_cons_succ])
    first
      | (refine wpAnyH_take (i := 8) (oi := ⟨(some 33), _, _, _, _, _⟩) (v := ?_) rfl (by kernel_rfl) (by kernel_rfl) (by kernel_rfl) (fun _ _ _ h => h) (Or.inl ⟨by rfl, ?_⟩) (by assumption) ?_; rotate_left; (focus (intro ww hSw; (try dsimp only at hSw); go_simp; (try with_reducible rfl))))
      | (refine wpAnyH_take (i := 8) (oi := ⟨(some 33), _, _, _, _, _⟩) (v := undef) rfl (by kernel_rfl) (by kernel_rfl) (by kernel_rfl) (fun _ _ _ h => h) (Or.inr ⟨by rfl, rfl⟩) (by assumption) ?_)
    (try simp only [Act.put, List.setIfInBounds_toArray, List.set_cons_zero, List.set_cons_succ])
    refine wpAnyH_ready (rs := [10]) (by kernel_rfl) (by simp) ?_
    refine AllReadyH.cons (o := ⟨(some 35), _, _, _, _, _⟩) rfl (fun K hK => ?_) AllReadyH.nil
    go_simp
    refine (same_st (W0 := x2) (by first | assumption | exact St.drew (by assumption)) (H2.out _)).mono ?_
    rintro e q2 ⟨rfl, hq2⟩
    clear hq1
    go_wp2_with fail
    refine hK.out _ _ ?_ (fun hHeld => ?_)
    · (try dsimp only)
      exact HTB.out _ _ (by first | assumption | exact St.drew (by assumption))
    clear hK K
    (try simp only [Act.put, List.setIfInBounds_toArray, List.set_cons_zero, List.set_cons_succ])
    first
      | (refine wpAnyH_take (i := 11) (oi := ⟨(some 36), _, _, _, _, _⟩) (v := ?_) rfl (by kernel_rfl) (by kernel_rfl) (by kernel_rfl) (fun _ _ _ h => h) (Or.inl ⟨by rfl, ?_⟩) (by assumption) ?_; rotate_left; (focus (intro ww hSw; (try dsimp only at hSw); go_simp; (try with_reducible rfl))))
      | (refine wpAnyH_take (i := 11) (oi := ⟨(some 36), _, _, _, _, _⟩) (v := undef) rfl (by kernel_rfl) (by kernel_rfl) (by kernel_rfl) (fun _ _ _ h => h) (Or.inr ⟨by rfl, rfl⟩) (by assumption) ?_)
    (try simp only [Act.put, List.setIfInBounds_toArray, List.set_cons_zero, List.set_cons_succ])
    refine wpAnyH_ready (rs := [12]) (by kernel_rfl) (by simp) ?_
    refine AllReadyH.cons (o := ⟨(some 37), _, _, _, _, _⟩) rfl (fun K hK => ?_) AllReadyH.nil
    go_simp
    obtain ⟨T, hTe, hTP⟩ := HG.out j hjM
    rw [hTe]
    refine (bel_st (W0 := x2) (by first | assumption | exact St.drew (by assumption)) hgx (HRUN.out T Q _ hTP (by omega))).mono ?_
    rintro e q3 ⟨rfl, hq3⟩
    clear hq2
    go_wp2_with fail
    refine hK.out _ _ ?_ (fun hHeld => ?_)
    · (try dsimp only)
      exact HTB.out _ _ (by first | assumption | exact St.drew (by assumption))
    clear hK K
    (try simp only [Act.put, List.setIfInBounds_toArray, List.set_cons_zero, List.set_cons_succ])
    first
      | (refine wpAnyH_take (i := 13) (oi := ⟨(some 2), _, _, _, _, _⟩) (v := ?_) rfl (by kernel_rfl) (by kernel_rfl) (by kernel_rfl) (fun _ _ _ h => h) (Or.inl ⟨by rfl, ?_⟩) (by assumption) ?_; rotate_left; (focus (intro ww hSw; (try dsimp only at hSw); go_simp; (try with_reducible rfl))))
      | (refine wpAnyH_take (i := 13) (oi := ⟨(some 2), _, _, _, _, _⟩) (v := undef) rfl (by kernel_rfl) (by kernel_rfl) (by kernel_rfl) (fun _ _ _ h => h) (Or.inr ⟨by rfl, rfl⟩) (by assumption) ?_)
    (try simp only [Act.put, List.setIfInBounds_toArray, List.set_cons_zero, List.set_cons_succ])
    refine wpAnyH_done (by kernel_rfl) ?_ _
    skip
    go_wp2
    go_ret
    exact ⟨_, rfl, by rw [runL_len]; omega, hq3.1.mono (by omega), HK.out.trans hq3.2⟩
  have b1 : ((k : Int) == 1) = false := by simp; omega
  by_cases h2 : k = 2
  · subst h2
    go_wp2_with fail
    refine (l1String_any _ _ _ 5 _ hr (by omega) (by omega)).mono ?_
    rintro e u18 ⟨l, rfl, hl, hr', hk'⟩
    replace hk := hk.trans hk'
    clear hk' hr
    have hr := hr'
    clear hr'
    have zl := str_size l
    have hl5 := hl.1
    have s1 : str l ++ (⟨#[49]⟩ : ByteArray) = str (l ++ [49]) := str_add l [49]
    obtain ⟨l2, hl2e, hl2⟩ : ∃ l2, l2 = l ++ [49] ∧ l2.length ≤ 6 := ⟨_, rfl, by have := hl.1; simp; omega⟩
    rw [← hl2e] at s1
    clear hl hl2e
    go_wp2_with fail
    refine (pick_any _ _ _ _ _ hr (by omega) (by omega) (by omega)).mono ?_
    rintro e u19 ⟨j, rfl, hj, hr', hk'⟩
    replace hk := hk.trans hk'
    clear hk' hr
    have hr := hr'
    clear hr'
    have hj2 : j ≤ 3 := by have := hj.1 (by omega); omega
    clear hj
    have hm : (1 + j) * l2.length ≤ 4 * 6 := Nat.mul_le_mul (by omega) hl2
    go_wp2_with fail
    refine (many_any (str l2) (1 + (j : Int)) _ (by rw [str_size, show (1 + (j : Int)).toNat = 1 + j by omega]; omega) (by omega)).mono ?_
    rintro e w' ⟨rfl, rfl⟩
    go_wp2
    go_ret
    exact ⟨_, rfl, by rw [manyL_len, str_list, show (1 + (j : Int)).toNat = 1 + j by omega]; omega, hr.mono (by omega), hk⟩
  have b2 : ((k : Int) == 2) = false := by simp; omega
  go_wp2_with fail
  refine (l1String_any _ _ _ 24 _ hr (by omega) (by omega)).mono ?_
  rintro e u20 ⟨l, rfl, hl, hr', hk'⟩
  replace hk := hk.trans hk'
  clear hk' hr
  have hr := hr'
  clear hr'
  have zl := str_size l
  have hl24 := hl.1
  have s1 : str l ++ (⟨#[48]⟩ : ByteArray) = str (l ++ [48]) := str_add l [48]
  go_wp2
  go_ret
  exact ⟨l ++ [48], rfl, by have := hl.1; simp; omega, hr.mono (by omega), hk⟩
set_option maxHeartbeats 4000000 in
theorem code4_any (B g lim : Nat) (w : World) (hr : Rd w B g lim) (hlim : lim ≤ 4700) :
    Calls Try.prog 59 #[.pointer (some ⟨g, 0, none⟩)] w fun e w' => ∃ l : List UInt8, e = .returned (.string (str l)) ∧ l.length ≤ 300 ∧ Rd w' B g (lim + 400) ∧ Keeps g w w' := by
  have hg := hr.lt
  have hk := Keeps.refl g w
  go_enter Try.func59, Try.ntmps59
  go_wp2_with fail
  refine (pick_any B g lim _ _ hr (by omega) (by omega) (by omega)).mono ?_
  rintro e u21 ⟨k, rfl, hx, hr', hk'⟩
  replace hk := hk.trans hk'
  clear hk' hr
  have hr := hr'
  clear hr'
  clear hx
  by_cases h0 : k = 0
  · subst h0
    go_wp2_with fail
    refine (pick_any _ _ _ _ _ hr (by omega) (by omega) (by omega)).mono ?_
    rintro e u22 ⟨n, rfl, hn, hr', hk'⟩
    replace hk := hk.trans hk'
    clear hk' hr
    have hr := hr'
    clear hr'
    have hn4 : n < 4 := by have := hn.1 (by omega); omega
    have hP8 : 2 ^ n ≤ 2 ^ 4 := Nat.pow_le_pow_right (by omega) (by omega)
    clear hn
    go_wp2_with fail
    refine (walsh_any n (2 ^ n) 0 _ rfl (by omega) (by omega)).mono ?_
    rintro e x2 ⟨rfl, k2⟩
    go_wp2
    go_ret
    exact ⟨_, rfl, by rw [walshL_len]; omega, (hr.below k2).mono (by omega), hk.after k2 hg.2⟩
  have b0 : ((k : Int) == 0) = false := by simpa using h0
  by_cases h1 : k = 1
  · subst h1
    go_wp2_with fail
    refine (pick_any _ _ _ _ _ hr (by omega) (by omega) (by omega)).mono ?_
    rintro e u23 ⟨n, rfl, hn, hr', hk'⟩
    replace hk := hk.trans hk'
    clear hk' hr
    have hr := hr'
    clear hr'
    have hn4 : n < 8 := by have := hn.1 (by omega); omega
    clear hn
    go_wp2_with fail
    refine (walsh_any 3 8 n _ rfl (by omega) (by omega)).mono ?_
    rintro e x2 ⟨rfl, k2⟩
    go_wp2
    go_ret
    exact ⟨_, rfl, by rw [walshL_len]; omega, (hr.below k2).mono (by omega), hk.after k2 hg.2⟩
  have b1 : ((k : Int) == 1) = false := by simp; omega
  by_cases h2 : k = 2
  · subst h2
    go_wp2_with fail
    refine (pick_any _ _ _ _ _ hr (by omega) (by omega) (by omega)).mono ?_
    rintro e u24 ⟨n, rfl, hn, hr', hk'⟩
    replace hk := hk.trans hk'
    clear hk' hr
    have hr := hr'
    clear hr'
    have hn4 : n < 9 := by have := hn.1 (by omega); omega
    clear hn
    go_wp2_with fail
    refine (gold_any _ _ (by omega) (by omega)).mono ?_
    rintro e x2 ⟨t, rfl, ht, htb, k2⟩
    have hr2 := hr.below k2
    have hk2 := hk.after k2 hg.2
    obtain ⟨cc, hcc, hcl⟩ : ∃ cc, t = str cc ∧ cc.length = 7 := ⟨t.data.toList, str_back t, by rw [data_length]; exact ht⟩
    subst hcc
    clear htb ht k2
    go_wp2
    go_ret
    exact ⟨_, rfl, by omega, hr2.mono (by omega), hk2⟩
  have b2 : ((k : Int) == 2) = false := by simp; omega
  go_wp2_with fail
  refine (seq2_any _ _ _ _ hr (by omega)).mono ?_
  rintro e u25 ⟨l, rfl, hl, hr', hk'⟩
  replace hk := hk.trans hk'
  clear hk' hr
  have hr := hr'
  clear hr'
  go_wp2
  go_ret
  exact ⟨l, rfl, by omega, hr.mono (by omega), hk⟩
end Go.Proofs.Ytiiiaeemblcniaa
