/- Weak contract of the function that draws a heard signal. -/
import Derived.Test.YtholipfekecloaaDrawA
import Derived.Test.YtholipfekecloaaDrawPs
import Derived.Test.YtholipfekecloaaPsig
import Derived.Deep.RegionHeld3
namespace Go.Proofs.Ytholipfekecloaa
set_option maxRecDepth 20000
open Go.ChangeShapes Go.WideShapes Go.ChangeAt Go.RowKit
set_option linter.unusedVariables false
set_option linter.unusedSimpArgs false

theorem sig_st {P : Program} {f : FuncId} {args : Array Value} {B g lim : Nat} {W0 u : World} {z : List Int} {b : Bool} (hs : St B g lim W0 u) (hg : g < W0.heap.size) (h : Calls P f args u (RetLB z b u)) :
    Calls P f args u fun e u' => ∃ v, e = .returned (.tuple #[v, .bool b]) ∧ Sl u' W0.heap.size u'.heap.size v z ∧ St B g lim W0 u' :=
  h.mono fun e u' ⟨v, a, s, k⟩ => ⟨v, a, s.mono hs.2.size (Nat.le_refl _), hs.1.below k, hs.2.after k hg⟩
theorem two_over {u : World} {b b' : Nat} {x y p q : Value} (h : u.cell? ⟨b, 0, none⟩ = some x ∧ u.cell? ⟨b, 1, none⟩ = some y) (hne : b' ≠ b) :
    ((u.setCell ⟨b', 0, none⟩ p).setCell ⟨b', 1, none⟩ q).cell? ⟨b, 0, none⟩ = some x ∧ ((u.setCell ⟨b', 0, none⟩ p).setCell ⟨b', 1, none⟩ q).cell? ⟨b, 1, none⟩ = some y := by
  constructor
  · exact (World.cell?_setCell_other _ _ _ _ (by simp <;> omega)).trans ((World.cell?_setCell_other _ _ _ _ (by simp <;> omega)).trans h.1)
  · exact (World.cell?_setCell_other _ _ _ _ (by simp <;> omega)).trans ((World.cell?_setCell_other _ _ _ _ (by simp <;> omega)).trans h.2)
theorem Sl.set2 {w : World} {lo hi b : Nat} {v x y : Value} {l : List Int} (h : Sl w lo hi v l) (hb : b < lo) : Sl ((w.setCell ⟨b, 0, none⟩ x).setCell ⟨b, 1, none⟩ y) lo hi v l := by
  rcases h.form with ⟨rfl, rfl⟩ | ⟨g, cap, rfl, ho, hlo, hhi⟩
  · exact Sl.nil _ _ _
  · exact Sl.of_own ((ho.setOther (by show g ≠ b; omega) x).setOther (by show g ≠ b; omega) y) hhi
theorem Own.cut {w : World} {B : Nat} {e : TypeId} {g n cap : Nat} {xs : List Value} (h : Own w B e g n cap xs) (j : Nat) (hj : j ≤ n) : Own w B e g j cap (xs.take j) := by
  obtain ⟨h1, h2⟩ := h
  refine ⟨by simp; omega, .inr ?_⟩
  rcases h2 with ⟨h2, _⟩ | ⟨g', c', cur, h', hB, hh, a, b, c, d⟩
  · cases h2
  · simp only [Value.slice.injEq, Option.some.injEq, Addr.mk.injEq, and_true, true_and] at h'
    obtain ⟨rfl, rfl⟩ := h'
    refine ⟨_, _, cur, rfl, hB, hh, by omega, b, c, ?_⟩
    rw [← d, List.take_take, Nat.min_eq_left (by omega), Nat.mul_one]
theorem Sl.cut {w : World} {lo hi n c : Nat} {A : Option Addr} {z : List Int} (h : Sl w lo hi (.slice A n c) z) (j : Nat) (hj : j ≤ n) : Sl w lo hi (.slice A j c) (z.take j) := by
  rcases h.form with ⟨e, rfl⟩ | ⟨g, cap, e, ho, hlo, hhi⟩
  · simp only [Value.slice.injEq] at e
    obtain ⟨rfl, rfl, rfl⟩ := e
    obtain rfl : j = 0 := by omega
    exact Sl.nil _ _ _
  · simp only [Value.slice.injEq] at e
    obtain ⟨rfl, rfl, rfl⟩ := e
    have hl : (z.take j).length = j := by simp; omega
    have := ho.cut j hj
    rw [← List.map_take] at this
    have h3 : Own w lo 3 g (z.take j).length c ((z.take j).map intV) := by rw [hl]; exact this
    have h4 := Sl.of_own h3 hhi
    rw [hl] at h4
    exact h4
theorem bad_st {B g lim : Nat} {W0 u : World} {v : Value} {z : List Int} (hs : St B g lim W0 u) (hg : g < W0.heap.size) (hlim : lim ≤ 5000) (h : Sl u W0.heap.size u.heap.size v z) (hz : z.length ≤ 10000) :
    Calls Try.prog 89 #[.pointer (some ⟨g, 0, none⟩), v] u fun e u' => ∃ v' z', e = .returned v' ∧ Sl u' W0.heap.size u'.heap.size v' z' ∧ z'.length ≤ 10001 ∧ St B g (lim + 10) W0 u' :=
  (l4Bad_any B g lim W0.heap.size v z u hs.1 hlim h hs.2.size hg hz).mono fun e u' ⟨v', z', a, ⟨b, c⟩, d, k⟩ => ⟨v', z', a, b, c, d, k.keeps hs.2 (Nat.le_refl _)⟩
set_option maxHeartbeats 8000000 in
theorem heard_any (B g lim : Nat) (w : World) (hr : Rd w B g lim) (hlim : lim ≤ 1000) :
    Calls Try.prog 72 #[.pointer (some ⟨g, 0, none⟩)] w fun e w' => ∃ (v : Value) (z : List Int) (l : List UInt8) (m off : Nat), e = .returned (.tuple #[v, .agg #[.string (str l), .int .i64 (m : Int)], .int .i64 (off : Int)]) ∧ (pilotOK l (m : Int) = true ∧ 2 ≤ l.length ∧ l.length ≤ 15 ∧ 1 ≤ m ∧ m ≤ 6) ∧ off < l.length * m ∧ (Sl w' w.heap.size w'.heap.size v z ∧ z.length ≤ 10001) ∧ Rd w' B g (lim + 500) ∧ Keeps g w w' := by
  have hg := hr.lt
  go_enter Try.func72, Try.ntmps72
  go_wp2_with fail
  obtain ⟨W, hW⟩ : ∃ W, W = w.alloc (.cells #[.string ⟨#[]⟩, .int .i64 0] 24) := ⟨_, rfl⟩
  have hb0 : Below w.heap.size w W := by rw [hW]; exact (Below.refl _ _).alloc (Nat.le_refl _) _
  have hWs : w.heap.size < W.heap.size := by rw [hW]; simp
  have hY : Two W w.heap.size (.string ⟨#[]⟩) (.int .i64 0) := by rw [hW]; exact Two.box _ _ _
  have hrW := hr.below hb0
  have hkW : Keeps g w W := (Keeps.refl g w).step hb0 hg.2
  rw [← hW]
  clear hW hr hb0
  refine (pilot_any _ _ _ _ hrW (by omega)).mono ?_
  rintro e u1 ⟨l, m, rfl, ⟨hp, hl2, hl15, hm1, hm6⟩, hr1, hk1⟩
  have hs1 := hk1.size
  obtain ⟨V, hV⟩ : ∃ V, V = u1.alloc (.cells #[.string (str l), .int .i64 (m : Int)] 24) := ⟨_, rfl⟩
  have hX : Two V u1.heap.size (.string (str l)) (.int .i64 (m : Int)) := by rw [hV]; exact Two.box _ _ _
  have hkV : Keeps g W V := by rw [hV]; exact hk1.after ((Below.refl _ _).alloc (Nat.le_refl _) _)
  have hrV : Rd V B g (lim + 300) := by rw [hV]; exact hr1.alloc _
  have hgV : g < V.heap.size := hrV.lt.2
  have hVs : u1.heap.size < V.heap.size := by rw [hV]; simp
  have hne : u1.heap.size ≠ g := by omega
  have hne2 : w.heap.size ≠ g := by omega
  have zl := str_size l
  obtain ⟨L, hL, hL1, hL2⟩ : ∃ L : Nat, L = l.length * m ∧ 1 ≤ L ∧ L ≤ 90 := ⟨_, rfl, Nat.mul_pos (by omega) hm1, Nat.mul_le_mul hl15 hm6⟩
  have HLEN : Hid (∀ u : World, Calls Try.prog 54 #[.agg #[.string (str l), .int .i64 (m : Int)]] u fun e w' => e = .returned (.int .i64 (L : Int)) ∧ Below u.heap.size u w') := Lib.hid fun u => by
    have e : ((str l).size : Int) * (m : Int) = (L : Int) := by rw [zl, hL, Int.natCast_mul]
    have hh := l5Length_any (str l) (m : Int) u (by rw [e]; omega) (by rw [e]; omega)
    rw [e] at hh
    exact hh
  have HPS : Hid (∀ (x k gg : Int) (u : World), Calls Try.prog 16 #[.agg #[.string (str l), .int .i64 (m : Int)], .int .i64 x, .int .i64 k, .int .i64 gg] u (RetLB (psL (str l) m x k gg) (psOK (str l) m x k gg) u)) := Lib.hid fun x k gg u => psS_any _ _ _ _ _ u (by rw [zl]; unfold maxLen; omega)
  obtain ⟨Q, hQ, hQL⟩ : ∃ Q : Nat → Nat → Nat, (∀ a b : Nat, Int.tmod ((a : Int) + (b : Int)) (L : Int) = (Q a b : Int)) ∧ ∀ a b, Q a b < L := ⟨fun a b => (a + b) % L, fun a b => by rw [← Int.natCast_add]; exact (Int.ofNat_tmod _ _).symm, fun a b => Nat.mod_lt _ (by omega)⟩
  have hQw : ∀ a b : Nat, IntKind.i64.wrap (Q a b : Int) = (Q a b : Int) := fun a b => IntWalk.i64_in _ (by have := hQL a b; omega)
  have hsum : ∀ a b : Nat, a < 256 → b < 256 → IntKind.i64.wrap ((a : Int) + (b : Int)) = (a : Int) + (b : Int) := fun a b h1 h2 => IntWalk.i64_in _ (by omega)
  have hL0 : ¬ (L : Int) = 0 := by omega
  have hL0b : ((L : Int) == 0) = false := by simpa using hL0
  have hL0n : ¬ L = 0 := by omega
  have hs0 : St B g (lim + 300) V V := ⟨hrV, Keeps.refl _ _⟩
  have HX := Lib.hid hX
  have HY := Lib.hid hY
  have HP := Lib.hid hp
  have HKW := Lib.hid hkW
  have HKV := Lib.hid hkV
  have HQL := Lib.hid hQL
  have HL := Lib.hid hL
  clear hX hY hr1 hk1 hp hkW hkV hrW hrV hQL hL
  go_wp2_with fail
  rw [← hV]
  clear hV
  go_region_held3 (fun u => u.cell? ⟨u1.heap.size, 0, none⟩ = some (.string (str l)) ∧ u.cell? ⟨u1.heap.size, 1, none⟩ = some (.int .i64 (m : Int))) (exact two_st HX.out hne (by first | assumption | exact St.drew (by assumption))) (first | (go_at_call 55; refine (pick_st B g _ _ (W0 := V) _ (by first | assumption | exact St.drew (by assumption)) (by omega) (by omega) (by omega)).mono ?_; rintro e v1 ⟨j, rfl, hj, hv1⟩; have hj2 : j < 256 := by { have := hj.1 (by omega); omega }; clear hj) | (go_at_call 54; refine (bel_st (W0 := V) (by first | assumption | exact St.drew (by assumption)) hgV (HLEN.out _)).mono ?_; rintro e v2 ⟨rfl, hv2⟩))
  all_goals
    generalize hqe : Q _ _ = q
    have HQ := Lib.hid (show q < L by rw [← hqe]; exact HQL.out _ _)
    clear hqe hsum hQ hQw HQL
    go_wp2
    go_region_held3 (fun u => u.cell? ⟨u1.heap.size, 0, none⟩ = some (.string (str l)) ∧ u.cell? ⟨u1.heap.size, 1, none⟩ = some (.int .i64 (m : Int))) (exact two_st HX.out hne (by first | assumption | exact St.drew (by assumption))) (first | (go_at_call 55; refine (pick_st B g _ _ (W0 := V) _ (by first | assumption | exact St.drew (by assumption)) (by omega) (by omega) (by omega)).mono ?_; rintro e v3 ⟨j3, rfl, hj3, hv3⟩; clear hj3) | (go_at_call 54; refine (bel_st (W0 := V) (by first | assumption | exact St.drew (by assumption)) hgV (HLEN.out _)).mono ?_; rintro e v4 ⟨rfl, hv4⟩) | (go_at_call 16; refine (sig_st (W0 := V) (by first | assumption | exact St.drew (by assumption)) hgV (HPS.out _ _ _ _)).mono ?_; rintro e v5 ⟨y, rfl, hsl, hst⟩))
    have HSL := Lib.hid hsl
    clear hsl hv3 hv4
    go_wp2_with fail
    refine (pick_any B g _ _ _ hst.1 (by omega) (by omega) (by omega)).mono ?_
    rintro e v6 ⟨k, rfl, hx, hr6, hk6⟩
    have hsl6 := (HSL.out.keeps hk6 hgV).up hk6.size
    have hst6 : St B g _ V v6 := ⟨hr6, hst.2.trans hk6⟩
    clear hx hr6 hk6 HSL hst
    obtain ⟨z, hz, hslz⟩ : ∃ z : List Int, z.length ≤ 3000 ∧ Sl v6 V.heap.size v6.heap.size y z := ⟨_, psL_len _ _ _ _ _, hsl6⟩
    generalize psOK _ _ _ _ _ = ok
    clear hsl6
    by_cases h0 : k = 0
    · subst h0
      have HS6 := Lib.hid hslz
      clear hslz
      go_wp2_with fail
      refine (l4Some_any B g _ 30 _ hst6.1 (by omega) (by omega)).mono ?_
      rintro e v7 ⟨y2, z2, rfl, ⟨hsl7, hz2⟩, hr7, hk7⟩
      have hslA := (HS6.out.keeps hk7 hgV).up hk7.size
      obtain ⟨A, c, rfl, hrd, hc⟩ := hslA.reads
      obtain ⟨A2, c2, rfl, hrd2, hc2⟩ := hsl7.reads
      have hst7 : St B g _ V v7 := ⟨hr7, hst6.2.trans hk7⟩
      have HADD := Lib.hid (l4Add_any A A2 c c2 z z2 v7 hrd hrd2 (by omega) (by omega))
      clear hslA hsl7 hr7 hk7 hst6 HS6 hrd hrd2 hc hc2
      go_wp2_with fail
      refine HADD.out.mono ?_
      rintro e v8 ⟨y3, rfl, hsl8, hb8⟩
      have hst8 : St B g _ V v8 := ⟨hst7.1.below hb8, hst7.2.after hb8 hgV⟩
      have HSL := Lib.hid (hsl8.mono hst7.2.size (Nat.le_refl _))
      have HZL : Hid ((addL5 z z2).length ≤ 10000) := Lib.hid (by rw [addL5_len]; omega)
      clear hsl8 hb8 hst7 HADD
      go_wp2
      have hW2 : w.heap.size ≠ u1.heap.size := by omega
      refine wp_region_held_drew (S := (fun u => u.cell? ⟨u1.heap.size, 0, none⟩ = some (.string (str l)) ∧ u.cell? ⟨u1.heap.size, 1, none⟩ = some (.int .i64 (m : Int)))) (by kernel_rfl) ?_ (fun hHeld => ?_)
      · (try dsimp only)
        first | exact two_st HX.out hne (by first | assumption | exact St.drew (by assumption)) | exact two_over (two_st HX.out hne hst9) hW2
      first
        | (refine wpAnyH_take (i := 0) (oi := ⟨(some 53), _, _, _, _, _⟩) (v := ?_) rfl (by kernel_rfl) (by kernel_rfl) (by kernel_rfl) (fun _ _ _ h => h) (Or.inl ⟨by rfl, ?_⟩) (by assumption) ?_; rotate_left; (focus (intro ww hSw; (try dsimp only at hSw); go_simp; (try with_reducible rfl))))
        | (refine wpAnyH_take (i := 0) (oi := ⟨(some 53), _, _, _, _, _⟩) (v := undef) rfl (by kernel_rfl) (by kernel_rfl) (by kernel_rfl) (fun _ _ _ h => h) (Or.inr ⟨by rfl, rfl⟩) (by assumption) ?_)
      (try simp only [Act.put, List.setIfInBounds_toArray, List.set_cons_zero, List.set_cons_succ])
      first
        | (refine wpAnyH_take (i := 1) (oi := ⟨(some 54), _, _, _, _, _⟩) (v := ?_) rfl (by kernel_rfl) (by kernel_rfl) (by kernel_rfl) (fun _ _ _ h => h) (Or.inl ⟨by rfl, ?_⟩) (by assumption) ?_; rotate_left; (focus (intro ww hSw; (try dsimp only at hSw); go_simp; (try with_reducible rfl))))
        | (refine wpAnyH_take (i := 1) (oi := ⟨(some 54), _, _, _, _, _⟩) (v := undef) rfl (by kernel_rfl) (by kernel_rfl) (by kernel_rfl) (fun _ _ _ h => h) (Or.inr ⟨by rfl, rfl⟩) (by assumption) ?_)
      (try simp only [Act.put, List.setIfInBounds_toArray, List.set_cons_zero, List.set_cons_succ])
      first
        | (refine wpAnyH_take (i := 3) (oi := ⟨(some 56), _, _, _, _, _⟩) (v := ?_) rfl (by kernel_rfl) (by kernel_rfl) (by kernel_rfl) (fun _ _ _ h => h) (Or.inl ⟨by rfl, ?_⟩) (by assumption) ?_; rotate_left; (focus (intro ww hSw; (try dsimp only at hSw); go_simp; (try with_reducible rfl))))
        | (refine wpAnyH_take (i := 3) (oi := ⟨(some 56), _, _, _, _, _⟩) (v := undef) rfl (by kernel_rfl) (by kernel_rfl) (by kernel_rfl) (fun _ _ _ h => h) (Or.inr ⟨by rfl, rfl⟩) (by assumption) ?_)
      (try simp only [Act.put, List.setIfInBounds_toArray, List.set_cons_zero, List.set_cons_succ])
      first
        | (refine wpAnyH_take (i := 4) (oi := ⟨(some 57), _, _, _, _, _⟩) (v := ?_) rfl (by kernel_rfl) (by kernel_rfl) (by kernel_rfl) (fun _ _ _ h => h) (Or.inl ⟨by rfl, ?_⟩) (by assumption) ?_; rotate_left; (focus (intro ww hSw; (try dsimp only at hSw); go_simp; (try with_reducible rfl))))
        | (refine wpAnyH_take (i := 4) (oi := ⟨(some 57), _, _, _, _, _⟩) (v := undef) rfl (by kernel_rfl) (by kernel_rfl) (by kernel_rfl) (fun _ _ _ h => h) (Or.inr ⟨by rfl, rfl⟩) (by assumption) ?_)
      (try simp only [Act.put, List.setIfInBounds_toArray, List.set_cons_zero, List.set_cons_succ])
      refine wpAnyH_ready (rs := [2]) (by kernel_rfl) (by simp) ?_
      refine AllReadyH.cons (o := ⟨(some 55), _, _, _, _, _⟩) rfl (fun K hK => ?_) AllReadyH.nil
      go_simp
      refine (bad_st (by first | assumption | exact St.drew (by assumption)) hgV (by omega) (by exact HSL.out) HZL.out).mono ?_
      rintro e v9 ⟨y9, z9, rfl, hsl9, hz9, hst9⟩
      obtain ⟨d0, d1, df, dl⟩ := HY.out.keeps (HKV.out.trans hst9.2) hne2
      go_wp2_with fail
      refine hK.out _ _ ?_ (fun hHeld => ?_)
      · (try dsimp only)
        first | exact two_st HX.out hne (by first | assumption | exact St.drew (by assumption)) | exact two_over (two_st HX.out hne hst9) hW2
      clear hK K
      (try simp only [Act.put, List.setIfInBounds_toArray, List.set_cons_zero, List.set_cons_succ])
      first
        | (refine wpAnyH_take (i := 5) (oi := ⟨(some 2), _, _, _, _, _⟩) (v := ?_) rfl (by kernel_rfl) (by kernel_rfl) (by kernel_rfl) (fun _ _ _ h => h) (Or.inl ⟨by rfl, ?_⟩) (by assumption) ?_; rotate_left; (focus (intro ww hSw; (try dsimp only at hSw); go_simp; (try with_reducible rfl))))
        | (refine wpAnyH_take (i := 5) (oi := ⟨(some 2), _, _, _, _, _⟩) (v := undef) rfl (by kernel_rfl) (by kernel_rfl) (by kernel_rfl) (fun _ _ _ h => h) (Or.inr ⟨by rfl, rfl⟩) (by assumption) ?_)
      (try simp only [Act.put, List.setIfInBounds_toArray, List.set_cons_zero, List.set_cons_succ])
      refine wpAnyH_ready (rs := [6]) (by kernel_rfl) (by simp) ?_
      refine AllReadyH.cons (o := ⟨none, _, _, _, _, _⟩) rfl (fun K hK => ?_) AllReadyH.nil
      go_simp
      refine hK.out _ _ ?_ (fun hHeld => ?_)
      · (try dsimp only)
        first | exact two_st HX.out hne (by first | assumption | exact St.drew (by assumption)) | exact two_over (two_st HX.out hne hst9) hW2
      clear hK K
      (try simp only [Act.put, List.setIfInBounds_toArray, List.set_cons_zero, List.set_cons_succ])
      first
        | (refine wpAnyH_take (i := 7) (oi := ⟨(some 4), _, _, _, _, _⟩) (v := ?_) rfl (by kernel_rfl) (by kernel_rfl) (by kernel_rfl) (fun _ _ _ h => h) (Or.inl ⟨by rfl, ?_⟩) (by assumption) ?_; rotate_left; (focus (intro ww hSw; (try dsimp only at hSw); go_simp; (try with_reducible rfl))))
        | (refine wpAnyH_take (i := 7) (oi := ⟨(some 4), _, _, _, _, _⟩) (v := undef) rfl (by kernel_rfl) (by kernel_rfl) (by kernel_rfl) (fun _ _ _ h => h) (Or.inr ⟨by rfl, rfl⟩) (by assumption) ?_)
      (try simp only [Act.put, List.setIfInBounds_toArray, List.set_cons_zero, List.set_cons_succ])
      refine wpAnyH_done (by kernel_rfl) ?_ _
      go_wp2
      exact bodyPost_ret (v := .tuple #[y9, .agg #[.string (str l), .int .i64 (m : Int)], .int .i64 (q : Int)]) (by simp [results, Try.results72, go_sem, d0, d1]) rfl ⟨y9, z9, l, m, _, rfl, ⟨HP.out, hl2, hl15, hm1, hm6⟩, by rw [← HL.out]; exact HQ.out, ⟨(hsl9.set2 (by omega)).mono (by omega) (by simp), hz9⟩, (hst9.1.below' (two_set v9 (Nat.le_refl w.heap.size) _ _) hg.2).mono (by omega), (HKW.out.trans (HKV.out.trans hst9.2)).step (two_set v9 (Nat.le_refl w.heap.size) _ _) hg.2⟩
    have b0 : ((k : Int) == 0) = false := by simpa using h0
    by_cases h1 : k = 1
    · subst h1
      obtain ⟨A, c, rfl, hrd, hc⟩ := hslz.reads
      have hw : IntKind.i64.wrap ((z.length : Int) + 1) = (z.length : Int) + 1 := IntWalk.i64_in _ (by omega)
      have HS6 := Lib.hid hslz
      clear hslz hrd
      go_wp2_with fail
      refine (pick_any B g _ _ _ hst6.1 (by omega) (by omega) (by omega)).mono ?_
      rintro e v8 ⟨x, rfl, hx, hr8, hk8⟩
      have hxz : x ≤ z.length := by have := hx.1 (by omega); omega
      have hst8 : St B g _ V v8 := ⟨hr8, hst6.2.trans hk8⟩
      have HSL := Lib.hid (((HS6.out.keeps hk8 hgV).up hk8.size).cut x hxz)
      have HZL : Hid ((z.take x).length ≤ 10000) := Lib.hid (by simp; omega)
      have q0 : (0 : Int) ≤ (x : Int) := by omega
      have q1 : (x : Int) ≤ (c : Int) := by omega
      clear hx hr8 hk8 HS6 hst6
      go_wp2
      have hW2 : w.heap.size ≠ u1.heap.size := by omega
      refine wp_region_held_drew (S := (fun u => u.cell? ⟨u1.heap.size, 0, none⟩ = some (.string (str l)) ∧ u.cell? ⟨u1.heap.size, 1, none⟩ = some (.int .i64 (m : Int)))) (by kernel_rfl) ?_ (fun hHeld => ?_)
      · (try dsimp only)
        first | exact two_st HX.out hne (by first | assumption | exact St.drew (by assumption)) | exact two_over (two_st HX.out hne hst9) hW2
      first
        | (refine wpAnyH_take (i := 0) (oi := ⟨(some 53), _, _, _, _, _⟩) (v := ?_) rfl (by kernel_rfl) (by kernel_rfl) (by kernel_rfl) (fun _ _ _ h => h) (Or.inl ⟨by rfl, ?_⟩) (by assumption) ?_; rotate_left; (focus (intro ww hSw; (try dsimp only at hSw); go_simp; (try with_reducible rfl))))
        | (refine wpAnyH_take (i := 0) (oi := ⟨(some 53), _, _, _, _, _⟩) (v := undef) rfl (by kernel_rfl) (by kernel_rfl) (by kernel_rfl) (fun _ _ _ h => h) (Or.inr ⟨by rfl, rfl⟩) (by assumption) ?_)
      (try simp only [Act.put, List.setIfInBounds_toArray, List.set_cons_zero, List.set_cons_succ])
      first
        | (refine wpAnyH_take (i := 1) (oi := ⟨(some 54), _, _, _, _, _⟩) (v := ?_) rfl (by kernel_rfl) (by kernel_rfl) (by kernel_rfl) (fun _ _ _ h => h) (Or.inl ⟨by rfl, ?_⟩) (by assumption) ?_; rotate_left; (focus (intro ww hSw; (try dsimp only at hSw); go_simp; (try with_reducible rfl))))
        | (refine wpAnyH_take (i := 1) (oi := ⟨(some 54), _, _, _, _, _⟩) (v := undef) rfl (by kernel_rfl) (by kernel_rfl) (by kernel_rfl) (fun _ _ _ h => h) (Or.inr ⟨by rfl, rfl⟩) (by assumption) ?_)
      (try simp only [Act.put, List.setIfInBounds_toArray, List.set_cons_zero, List.set_cons_succ])
      first
        | (refine wpAnyH_take (i := 3) (oi := ⟨(some 56), _, _, _, _, _⟩) (v := ?_) rfl (by kernel_rfl) (by kernel_rfl) (by kernel_rfl) (fun _ _ _ h => h) (Or.inl ⟨by rfl, ?_⟩) (by assumption) ?_; rotate_left; (focus (intro ww hSw; (try dsimp only at hSw); go_simp; (try with_reducible rfl))))
        | (refine wpAnyH_take (i := 3) (oi := ⟨(some 56), _, _, _, _, _⟩) (v := undef) rfl (by kernel_rfl) (by kernel_rfl) (by kernel_rfl) (fun _ _ _ h => h) (Or.inr ⟨by rfl, rfl⟩) (by assumption) ?_)
      (try simp only [Act.put, List.setIfInBounds_toArray, List.set_cons_zero, List.set_cons_succ])
      first
        | (refine wpAnyH_take (i := 4) (oi := ⟨(some 57), _, _, _, _, _⟩) (v := ?_) rfl (by kernel_rfl) (by kernel_rfl) (by kernel_rfl) (fun _ _ _ h => h) (Or.inl ⟨by rfl, ?_⟩) (by assumption) ?_; rotate_left; (focus (intro ww hSw; (try dsimp only at hSw); go_simp; (try with_reducible rfl))))
        | (refine wpAnyH_take (i := 4) (oi := ⟨(some 57), _, _, _, _, _⟩) (v := undef) rfl (by kernel_rfl) (by kernel_rfl) (by kernel_rfl) (fun _ _ _ h => h) (Or.inr ⟨by rfl, rfl⟩) (by assumption) ?_)
      (try simp only [Act.put, List.setIfInBounds_toArray, List.set_cons_zero, List.set_cons_succ])
      refine wpAnyH_ready (rs := [2]) (by kernel_rfl) (by simp) ?_
      refine AllReadyH.cons (o := ⟨(some 55), _, _, _, _, _⟩) rfl (fun K hK => ?_) AllReadyH.nil
      go_simp
      refine (bad_st (by first | assumption | exact St.drew (by assumption)) hgV (by omega) (by exact HSL.out) HZL.out).mono ?_
      rintro e v9 ⟨y9, z9, rfl, hsl9, hz9, hst9⟩
      obtain ⟨d0, d1, df, dl⟩ := HY.out.keeps (HKV.out.trans hst9.2) hne2
      go_wp2_with fail
      refine hK.out _ _ ?_ (fun hHeld => ?_)
      · (try dsimp only)
        first | exact two_st HX.out hne (by first | assumption | exact St.drew (by assumption)) | exact two_over (two_st HX.out hne hst9) hW2
      clear hK K
      (try simp only [Act.put, List.setIfInBounds_toArray, List.set_cons_zero, List.set_cons_succ])
      first
        | (refine wpAnyH_take (i := 5) (oi := ⟨(some 2), _, _, _, _, _⟩) (v := ?_) rfl (by kernel_rfl) (by kernel_rfl) (by kernel_rfl) (fun _ _ _ h => h) (Or.inl ⟨by rfl, ?_⟩) (by assumption) ?_; rotate_left; (focus (intro ww hSw; (try dsimp only at hSw); go_simp; (try with_reducible rfl))))
        | (refine wpAnyH_take (i := 5) (oi := ⟨(some 2), _, _, _, _, _⟩) (v := undef) rfl (by kernel_rfl) (by kernel_rfl) (by kernel_rfl) (fun _ _ _ h => h) (Or.inr ⟨by rfl, rfl⟩) (by assumption) ?_)
      (try simp only [Act.put, List.setIfInBounds_toArray, List.set_cons_zero, List.set_cons_succ])
      refine wpAnyH_ready (rs := [6]) (by kernel_rfl) (by simp) ?_
      refine AllReadyH.cons (o := ⟨none, _, _, _, _, _⟩) rfl (fun K hK => ?_) AllReadyH.nil
      go_simp
      refine hK.out _ _ ?_ (fun hHeld => ?_)
      · (try dsimp only)
        first | exact two_st HX.out hne (by first | assumption | exact St.drew (by assumption)) | exact two_over (two_st HX.out hne hst9) hW2
      clear hK K
      (try simp only [Act.put, List.setIfInBounds_toArray, List.set_cons_zero, List.set_cons_succ])
      first
        | (refine wpAnyH_take (i := 7) (oi := ⟨(some 4), _, _, _, _, _⟩) (v := ?_) rfl (by kernel_rfl) (by kernel_rfl) (by kernel_rfl) (fun _ _ _ h => h) (Or.inl ⟨by rfl, ?_⟩) (by assumption) ?_; rotate_left; (focus (intro ww hSw; (try dsimp only at hSw); go_simp; (try with_reducible rfl))))
        | (refine wpAnyH_take (i := 7) (oi := ⟨(some 4), _, _, _, _, _⟩) (v := undef) rfl (by kernel_rfl) (by kernel_rfl) (by kernel_rfl) (fun _ _ _ h => h) (Or.inr ⟨by rfl, rfl⟩) (by assumption) ?_)
      (try simp only [Act.put, List.setIfInBounds_toArray, List.set_cons_zero, List.set_cons_succ])
      refine wpAnyH_done (by kernel_rfl) ?_ _
      go_wp2
      exact bodyPost_ret (v := .tuple #[y9, .agg #[.string (str l), .int .i64 (m : Int)], .int .i64 (q : Int)]) (by simp [results, Try.results72, go_sem, d0, d1]) rfl ⟨y9, z9, l, m, _, rfl, ⟨HP.out, hl2, hl15, hm1, hm6⟩, by rw [← HL.out]; exact HQ.out, ⟨(hsl9.set2 (by omega)).mono (by omega) (by simp), hz9⟩, (hst9.1.below' (two_set v9 (Nat.le_refl w.heap.size) _ _) hg.2).mono (by omega), (HKW.out.trans (HKV.out.trans hst9.2)).step (two_set v9 (Nat.le_refl w.heap.size) _ _) hg.2⟩
    have b1 : ((k : Int) == 1) = false := by simp; omega
    have HSL := Lib.hid hslz
    have HZL : Hid (z.length ≤ 10000) := Lib.hid (by omega)
    clear hslz
    go_wp2
    have hW2 : w.heap.size ≠ u1.heap.size := by omega
    refine wp_region_held_drew (S := (fun u => u.cell? ⟨u1.heap.size, 0, none⟩ = some (.string (str l)) ∧ u.cell? ⟨u1.heap.size, 1, none⟩ = some (.int .i64 (m : Int)))) (by kernel_rfl) ?_ (fun hHeld => ?_)
    · (try dsimp only)
      first | exact two_st HX.out hne (by first | assumption | exact St.drew (by assumption)) | exact two_over (two_st HX.out hne hst9) hW2
    first
      | (refine wpAnyH_take (i := 0) (oi := ⟨(some 53), _, _, _, _, _⟩) (v := ?_) rfl (by kernel_rfl) (by kernel_rfl) (by kernel_rfl) (fun _ _ _ h => h) (Or.inl ⟨by rfl, ?_⟩) (by assumption) ?_; rotate_left; (focus (intro ww hSw; (try dsimp only at hSw); go_simp; (try with_reducible rfl))))
      | (refine wpAnyH_take (i := 0) (oi := ⟨(some 53), _, _, _, _, _⟩) (v := undef) rfl (by kernel_rfl) (by kernel_rfl) (by kernel_rfl) (fun _ _ _ h => h) (Or.inr ⟨by rfl, rfl⟩) (by assumption) ?_)
    (try simp only [Act.put, List.setIfInBounds_toArray, List.set_cons_zero, List.set_cons_succ])
    first
      | (refine wpAnyH_take (i := 1) (oi := ⟨(some 54), _, _, _, _, _⟩) (v := ?_) rfl (by kernel_rfl) (by kernel_rfl) (by kernel_rfl) (fun _ _ _ h => h) (Or.inl ⟨by rfl, ?_⟩) (by assumption) ?_; rotate_left; (focus (intro ww hSw; (try dsimp only at hSw); go_simp; (try with_reducible rfl))))
      | (refine wpAnyH_take (i := 1) (oi := ⟨(some 54), _, _, _, _, _⟩) (v := undef) rfl (by kernel_rfl) (by kernel_rfl) (by kernel_rfl) (fun _ _ _ h => h) (Or.inr ⟨by rfl, rfl⟩) (by assumption) ?_)
    (try simp only [Act.put, List.setIfInBounds_toArray, List.set_cons_zero, List.set_cons_succ])
    first
      | (refine wpAnyH_take (i := 3) (oi := ⟨(some 56), _, _, _, _, _⟩) (v := ?_) rfl (by kernel_rfl) (by kernel_rfl) (by kernel_rfl) (fun _ _ _ h => h) (Or.inl ⟨by rfl, ?_⟩) (by assumption) ?_; rotate_left; (focus (intro ww hSw; (try dsimp only at hSw); go_simp; (try with_reducible rfl))))
      | (refine wpAnyH_take (i := 3) (oi := ⟨(some 56), _, _, _, _, _⟩) (v := undef) rfl (by kernel_rfl) (by kernel_rfl) (by kernel_rfl) (fun _ _ _ h => h) (Or.inr ⟨by rfl, rfl⟩) (by assumption) ?_)
    (try simp only [Act.put, List.setIfInBounds_toArray, List.set_cons_zero, List.set_cons_succ])
    first
      | (refine wpAnyH_take (i := 4) (oi := ⟨(some 57), _, _, _, _, _⟩) (v := ?_) rfl (by kernel_rfl) (by kernel_rfl) (by kernel_rfl) (fun _ _ _ h => h) (Or.inl ⟨by rfl, ?_⟩) (by assumption) ?_; rotate_left; (focus (intro ww hSw; (try dsimp only at hSw); go_simp; (try with_reducible rfl))))
      | (refine wpAnyH_take (i := 4) (oi := ⟨(some 57), _, _, _, _, _⟩) (v := undef) rfl (by kernel_rfl) (by kernel_rfl) (by kernel_rfl) (fun _ _ _ h => h) (Or.inr ⟨by rfl, rfl⟩) (by assumption) ?_)
    (try simp only [Act.put, List.setIfInBounds_toArray, List.set_cons_zero, List.set_cons_succ])
    refine wpAnyH_ready (rs := [2]) (by kernel_rfl) (by simp) ?_
    refine AllReadyH.cons (o := ⟨(some 55), _, _, _, _, _⟩) rfl (fun K hK => ?_) AllReadyH.nil
    go_simp
    refine (bad_st (by first | assumption | exact St.drew (by assumption)) hgV (by omega) (by exact HSL.out) HZL.out).mono ?_
    rintro e v9 ⟨y9, z9, rfl, hsl9, hz9, hst9⟩
    obtain ⟨d0, d1, df, dl⟩ := HY.out.keeps (HKV.out.trans hst9.2) hne2
    go_wp2_with fail
    refine hK.out _ _ ?_ (fun hHeld => ?_)
    · (try dsimp only)
      first | exact two_st HX.out hne (by first | assumption | exact St.drew (by assumption)) | exact two_over (two_st HX.out hne hst9) hW2
    clear hK K
    (try simp only [Act.put, List.setIfInBounds_toArray, List.set_cons_zero, List.set_cons_succ])
    first
      | (refine wpAnyH_take (i := 5) (oi := ⟨(some 2), _, _, _, _, _⟩) (v := ?_) rfl (by kernel_rfl) (by kernel_rfl) (by kernel_rfl) (fun _ _ _ h => h) (Or.inl ⟨by rfl, ?_⟩) (by assumption) ?_; rotate_left; (focus (intro ww hSw; (try dsimp only at hSw); go_simp; (try with_reducible rfl))))
      | (refine wpAnyH_take (i := 5) (oi := ⟨(some 2), _, _, _, _, _⟩) (v := undef) rfl (by kernel_rfl) (by kernel_rfl) (by kernel_rfl) (fun _ _ _ h => h) (Or.inr ⟨by rfl, rfl⟩) (by assumption) ?_)
    (try simp only [Act.put, List.setIfInBounds_toArray, List.set_cons_zero, List.set_cons_succ])
    refine wpAnyH_ready (rs := [6]) (by kernel_rfl) (by simp) ?_
    refine AllReadyH.cons (o := ⟨none, _, _, _, _, _⟩) rfl (fun K hK => ?_) AllReadyH.nil
    go_simp
    refine hK.out _ _ ?_ (fun hHeld => ?_)
    · (try dsimp only)
      first | exact two_st HX.out hne (by first | assumption | exact St.drew (by assumption)) | exact two_over (two_st HX.out hne hst9) hW2
    clear hK K
    (try simp only [Act.put, List.setIfInBounds_toArray, List.set_cons_zero, List.set_cons_succ])
    first
      | (refine wpAnyH_take (i := 7) (oi := ⟨(some 4), _, _, _, _, _⟩) (v := ?_) rfl (by kernel_rfl) (by kernel_rfl) (by kernel_rfl) (fun _ _ _ h => h) (Or.inl ⟨by rfl, ?_⟩) (by assumption) ?_; rotate_left; (focus (intro ww hSw; (try dsimp only at hSw); go_simp; (try with_reducible rfl))))
      | (refine wpAnyH_take (i := 7) (oi := ⟨(some 4), _, _, _, _, _⟩) (v := undef) rfl (by kernel_rfl) (by kernel_rfl) (by kernel_rfl) (fun _ _ _ h => h) (Or.inr ⟨by rfl, rfl⟩) (by assumption) ?_)
    (try simp only [Act.put, List.setIfInBounds_toArray, List.set_cons_zero, List.set_cons_succ])
    refine wpAnyH_done (by kernel_rfl) ?_ _
    go_wp2
    exact bodyPost_ret (v := .tuple #[y9, .agg #[.string (str l), .int .i64 (m : Int)], .int .i64 (q : Int)]) (by simp [results, Try.results72, go_sem, d0, d1]) rfl ⟨y9, z9, l, m, _, rfl, ⟨HP.out, hl2, hl15, hm1, hm6⟩, by rw [← HL.out]; exact HQ.out, ⟨(hsl9.set2 (by omega)).mono (by omega) (by simp), hz9⟩, (hst9.1.below' (two_set v9 (Nat.le_refl w.heap.size) _ _) hg.2).mono (by omega), (HKW.out.trans (HKV.out.trans hst9.2)).step (two_set v9 (Nat.le_refl w.heap.size) _ _) hg.2⟩
end Go.Proofs.Ytholipfekecloaa
