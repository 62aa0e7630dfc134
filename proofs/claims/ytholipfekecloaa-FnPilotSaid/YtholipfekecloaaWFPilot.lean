/- The walk of the law FnPilot: the samples of a pilot repeat after its period, begin later with the offset, and are the gain or its opposite. -/
import Derived.Test.YtholipfekecloaaDrawPs
import Derived.Test.YtholipfekecloaaSsI
import Derived.Deep.QuietTactic
import Derived.BigQuiet
namespace Go.Proofs.Ytholipfekecloaa.fnPilot
set_option maxRecDepth 20000
open Go.ChangeShapes Go.WideShapes Go.ChangeAt Go.RowKit
set_option linter.unusedVariables false
set_option linter.unusedSimpArgs false

theorem relB {P : Program} {f : FuncId} {args : Array Value} {W0 u : World} {v : Value} (hu : Below W0.heap.size W0 u) (h : Calls P f args u fun e u' => e = .returned v ∧ Below u.heap.size u u') :
    Calls P f args u fun e u' => e = .returned v ∧ Below W0.heap.size W0 u' := h.mono fun e u' ⟨a, b⟩ => ⟨a, below_next hu b⟩
theorem two_at {W u : World} {b : Nat} {x y : Value} (h : Two W b x y) (hb : Below W.heap.size W u) : u.cell? ⟨b, 0, none⟩ = some x ∧ u.cell? ⟨b, 1, none⟩ = some y := by
  have := h.below hb
  exact ⟨this.1, this.2.1⟩
theorem plc_zero {L j : Nat} (h : j < L) : plc L 0 j = j := by unfold plc; rw [Nat.sub_zero, Nat.add_mod_right, Nat.mod_eq_of_lt h]
theorem plc_back {L off k : Nat} (h : L ≤ k) : plc L off (k - L) = plc L off k := by
  unfold plc
  rw [show k + (L - off) = (k - L + (L - off)) + L by omega, Nat.add_mod_right]
theorem pchip_first {l : List UInt8} {m off k : Nat} (ho : off ≤ l.length * m) (hL : 0 < l.length * m) : pchip l m 0 ((l.length * m - off + k) % (l.length * m)) = pchip l m off k := by
  unfold pchip
  rw [plc_zero (Nat.mod_lt _ hL)]
  unfold plc
  rw [Nat.add_comm]
theorem pchip_back {l : List UInt8} {m off k : Nat} (h : l.length * m ≤ k) : pchip l m off (k - l.length * m) = pchip l m off k := by
  unfold pchip; rw [plc_back h]
theorem sq_chip {g v : Int} (h : v = 1 ∨ v = -1) : g * v * (g * v) = g * g := by rcases h with rfl | rfl <;> simp [Int.neg_mul_neg]
theorem abs_chip {g v : Int} (h1 : -1000 ≤ g) (h2 : g ≤ 1000) (h : v = 1 ∨ v = -1) : -1000 ≤ g * v ∧ g * v ≤ 1000 := by rcases h with rfl | rfl <;> omega
theorem sq_bd {g : Int} (h1 : -1000 ≤ g) (h2 : g ≤ 1000) : 0 ≤ g * g ∧ g * g ≤ 1000000 := by
  have h3 : g * g = (g.natAbs : Int) * (g.natAbs : Int) := by rw [← Int.natAbs_mul_self' g]
  have h4 : g.natAbs * g.natAbs ≤ 1000 * 1000 := Nat.mul_le_mul (by omega) (by omega)
  rw [h3, ← Int.natCast_mul]
  omega

set_option maxHeartbeats 8000000 in
theorem walk (a0 : Option Addr) (len0 cap0 : Nat) (z0 : List Int) (w : World) (hw0 : IsRow .u8 w a0 len0 cap0 z0) :
    Calls Try.prog 4 #[.slice a0 len0 cap0] w fun e w' => e = .returned (.bool true) ∧ Below w.heap.size w w' := by
  by_cases hlen : len0 ≤ 1048576
  rotate_left
  · go_enter Try.func4, Try.ntmps4
    go_wp2
    go_ret
    exact ⟨rfl, Below.refl _ _⟩
  go_enter Try.func4, Try.ntmps4
  go_wp2_with fail
  refine (drawPs_any _ _ _ _ _ hw0).mono ?_
  rintro e w1 ⟨l, m, x, k, g, rfl, ⟨hl, hm1, hm9⟩, ⟨hx1, hx2⟩, ⟨hk1, hk2⟩, ⟨hg1, hg2⟩, hb1⟩
  clear hw0
  have zl := str_size l
  have hm : (str l).size ≤ maxLen := by unfold maxLen; omega
  obtain ⟨W, hW⟩ : ∃ W, W = w1.alloc (.cells #[.string (str l), .int .i64 m] 24) := ⟨_, rfl⟩
  have hTwo : Two W w1.heap.size (.string (str l)) (.int .i64 m) := by rw [hW]; exact Two.box _ _ _
  have hbW : Below w.heap.size w W := by rw [hW]; exact hb1.alloc hb1.size _
  have hPI := Lib.hid (fun u : World => psI_any (str l) m x k g u hm)
  have hPS := Lib.hid (fun u : World => psS_any (str l) m x k g u hm)
  obtain ⟨L, hL⟩ : ∃ L, L = psL (str l) m x k g := ⟨_, rfl⟩
  have hLl : L.length ≤ 3000 := by rw [hL]; exact psL_len _ _ _ _ _
  have HLE := Lib.hid hL
  rw [← hL] at hPI hPS
  clear hL
  go_wp2_with fail
  rw [← hW]
  clear hW hb1
  cases hok : psOK (str l) m x k g with
  | false =>
    rw [hok] at hPI hPS
    have hHT := Lib.hid hTwo
    have HBW := Lib.hid hbW
    refine (hPI.out _).mono ?_
    rintro e u1 ⟨v1, rfl, hs1, k1⟩
    have hT1 := hTwo.below k1
    obtain ⟨c0, c1, cf, cl⟩ := id hT1
    have hBw1 := hbW.trans (k1.mono hbW.size)
    have HS1 := Lib.hid hs1
    have HT1 := Lib.hid hT1
    have HB1 := Lib.hid hBw1
    clear hs1 hT1 hTwo hbW k1 hBw1
    go_wp2_with fail
    refine (hPS.out _).mono ?_
    rintro e u2 ⟨v2, rfl, hs2, k2⟩
    have HT2 := Lib.hid (HT1.out.below k2)
    have HB2 := Lib.hid (HB1.out.trans (k2.mono HB1.out.size))
    have hs12 := HS1.out.below k2 (Nat.le_refl _)
    have HEQ : Hid (∀ u : World, Below u2.heap.size u2 u → Calls Try.prog 17 #[v1, v2] u fun e u' => e = .returned (.bool true) ∧ Below u.heap.size u u') := Lib.hid fun u hu => ssIntsS_any (hs12.below hu k2.size) (hs2.below hu (Nat.le_refl _)) (Nat.le_trans k2.size hu.size) hu.size (by omega)
    have hb := Below.refl u2.heap.size u2
    have hwU := HB2.out.size
    have HPL : Hid (∀ u : World, Calls Try.prog 13 #[.agg #[.string (str l), .int .i64 m]] u fun e w' => e = .returned (.int .i64 (pilotLen (str l) m)) ∧ Below u.heap.size u w') := fun u => by
      have hh := plenI_any (str l) m u hm
      exact hh
    have HPS2 : Hid (∀ u : World, Calls Try.prog 18 #[.agg #[.string (str l), .int .i64 m]] u fun e w' => e = .returned (.int .i64 (pilotLen (str l) m)) ∧ Below u.heap.size u w') := fun u => by
      have hh := plenS_any (str l) m u hm
      exact hh
    have HPV : Hid (∀ u : World, Calls Try.prog 19 #[.agg #[.string (str l), .int .i64 m]] u fun e w' => e = .returned (.bool (pilotOK (str l).data.toList m)) ∧ Below u.heap.size u w') := fun u => by
      have hh := pilotI_any (str l) m u hm
      exact hh
    have hvv : (pilotOK (str l).data.toList m == decide (0 < pilotLen (str l) m)) = true := by
      cases hp : pilotOK (str l).data.toList m with
      | false => rw [pilotLen_no hp]; rfl
      | true =>
        have h := (pilot_parts hp).2.2.2.2.2.1
        rw [pilotLen_yes hp, decide_eq_true (by omega)]; rfl
    generalize pilotLen (str l) m = pl at *
    generalize pilotOK (str l).data.toList m = pv at *
    clear c0 c1 cf cl hs2 hs12 k2 HS1
    go_wp2
    refine wp_region_held_drew (S := (fun u => u.cell? ⟨w1.heap.size, 0, none⟩ = some (.string (str l)) ∧ u.cell? ⟨w1.heap.size, 1, none⟩ = some (.int .i64 m))) (by kernel_rfl) ?_ (fun hHeld => ?_)
    · (try dsimp only)
      exact two_at HT2.out (by first | assumption | exact Below.drew (by assumption))
    first
      | (refine wpAnyH_take (i := 0) (oi := ⟨(some 40), _, _, _, _, _⟩) (v := ?_) rfl (by kernel_rfl) (by kernel_rfl) (by kernel_rfl) (fun _ _ _ h => h) (Or.inl ⟨by rfl, ?_⟩) (by assumption) ?_; rotate_left; (focus (intro ww hSw; (try dsimp only at hSw); go_simp; (try with_reducible rfl))))
      | (refine wpAnyH_take (i := 0) (oi := ⟨(some 40), _, _, _, _, _⟩) (v := undef) rfl (by kernel_rfl) (by kernel_rfl) (by kernel_rfl) (fun _ _ _ h => h) (Or.inr ⟨by rfl, rfl⟩) (by assumption) ?_)
    (try simp only [Act.put, List.setIfInBounds_toArray, List.set_cons_zero, List.set_cons_succ])
    first
      | (refine wpAnyH_take (i := 1) (oi := ⟨(some 41), _, _, _, _, _⟩) (v := ?_) rfl (by kernel_rfl) (by kernel_rfl) (by kernel_rfl) (fun _ _ _ h => h) (Or.inl ⟨by rfl, ?_⟩) (by assumption) ?_; rotate_left; (focus (intro ww hSw; (try dsimp only at hSw); go_simp; (try with_reducible rfl))))
      | (refine wpAnyH_take (i := 1) (oi := ⟨(some 41), _, _, _, _, _⟩) (v := undef) rfl (by kernel_rfl) (by kernel_rfl) (by kernel_rfl) (fun _ _ _ h => h) (Or.inr ⟨by rfl, rfl⟩) (by assumption) ?_)
    (try simp only [Act.put, List.setIfInBounds_toArray, List.set_cons_zero, List.set_cons_succ])
    refine wpAnyH_ready (rs := [2]) (by kernel_rfl) (by simp) ?_
    refine AllReadyH.cons (o := ⟨(some 42), _, _, _, _, _⟩) rfl (fun K hK => ?_) AllReadyH.nil
    go_simp
    refine (relB (W0 := u2) (by first | assumption | exact Below.drew (by assumption)) (HEQ.out _ (by first | assumption | exact Below.drew (by assumption)))).mono ?_
    rintro e q1 ⟨rfl, hq1⟩
    go_wp2_with fail
    refine hK.out _ _ ?_ (fun hHeld => ?_)
    · (try dsimp only)
      exact two_at HT2.out (by first | assumption | exact Below.drew (by assumption))
    clear hK K
    (try simp only [Act.put, List.setIfInBounds_toArray, List.set_cons_zero, List.set_cons_succ])
    first
      | (refine wpAnyH_take (i := 3) (oi := ⟨(some 43), _, _, _, _, _⟩) (v := ?_) rfl (by kernel_rfl) (by kernel_rfl) (by kernel_rfl) (fun _ _ _ h => h) (Or.inl ⟨by rfl, ?_⟩) (by assumption) ?_; rotate_left; (focus (intro ww hSw; (try dsimp only at hSw); go_simp; (try with_reducible rfl))))
      | (refine wpAnyH_take (i := 3) (oi := ⟨(some 43), _, _, _, _, _⟩) (v := undef) rfl (by kernel_rfl) (by kernel_rfl) (by kernel_rfl) (fun _ _ _ h => h) (Or.inr ⟨by rfl, rfl⟩) (by assumption) ?_)
    (try simp only [Act.put, List.setIfInBounds_toArray, List.set_cons_zero, List.set_cons_succ])
    first
      | (refine wpAnyH_take (i := 4) (oi := ⟨(some 44), _, _, _, _, _⟩) (v := ?_) rfl (by kernel_rfl) (by kernel_rfl) (by kernel_rfl) (fun _ _ _ h => h) (Or.inl ⟨by rfl, ?_⟩) (by assumption) ?_; rotate_left; (focus (intro ww hSw; (try dsimp only at hSw); go_simp; (try with_reducible rfl))))
      | (refine wpAnyH_take (i := 4) (oi := ⟨(some 44), _, _, _, _, _⟩) (v := undef) rfl (by kernel_rfl) (by kernel_rfl) (by kernel_rfl) (fun _ _ _ h => h) (Or.inr ⟨by rfl, rfl⟩) (by assumption) ?_)
    (try simp only [Act.put, List.setIfInBounds_toArray, List.set_cons_zero, List.set_cons_succ])
    first
      | (refine wpAnyH_take (i := 5) (oi := ⟨(some 45), _, _, _, _, _⟩) (v := ?_) rfl (by kernel_rfl) (by kernel_rfl) (by kernel_rfl) (fun _ _ _ h => h) (Or.inl ⟨by rfl, ?_⟩) (by assumption) ?_; rotate_left; (focus (intro ww hSw; (try dsimp only at hSw); go_simp; (try with_reducible rfl))))
      | (refine wpAnyH_take (i := 5) (oi := ⟨(some 45), _, _, _, _, _⟩) (v := undef) rfl (by kernel_rfl) (by kernel_rfl) (by kernel_rfl) (fun _ _ _ h => h) (Or.inr ⟨by rfl, rfl⟩) (by assumption) ?_)
    (try simp only [Act.put, List.setIfInBounds_toArray, List.set_cons_zero, List.set_cons_succ])
    first
      | (refine wpAnyH_take (i := 6) (oi := ⟨(some 46), _, _, _, _, _⟩) (v := ?_) rfl (by kernel_rfl) (by kernel_rfl) (by kernel_rfl) (fun _ _ _ h => h) (Or.inl ⟨by rfl, ?_⟩) (by assumption) ?_; rotate_left; (focus (intro ww hSw; (try dsimp only at hSw); go_simp; (try with_reducible rfl))))
      | (refine wpAnyH_take (i := 6) (oi := ⟨(some 46), _, _, _, _, _⟩) (v := undef) rfl (by kernel_rfl) (by kernel_rfl) (by kernel_rfl) (fun _ _ _ h => h) (Or.inr ⟨by rfl, rfl⟩) (by assumption) ?_)
    (try simp only [Act.put, List.setIfInBounds_toArray, List.set_cons_zero, List.set_cons_succ])
    first
      | (refine wpAnyH_take (i := 7) (oi := ⟨(some 47), _, _, _, _, _⟩) (v := ?_) rfl (by kernel_rfl) (by kernel_rfl) (by kernel_rfl) (fun _ _ _ h => h) (Or.inl ⟨by rfl, ?_⟩) (by assumption) ?_; rotate_left; (focus (intro ww hSw; (try dsimp only at hSw); go_simp; (try with_reducible rfl))))
      | (refine wpAnyH_take (i := 7) (oi := ⟨(some 47), _, _, _, _, _⟩) (v := undef) rfl (by kernel_rfl) (by kernel_rfl) (by kernel_rfl) (fun _ _ _ h => h) (Or.inr ⟨by rfl, rfl⟩) (by assumption) ?_)
    (try simp only [Act.put, List.setIfInBounds_toArray, List.set_cons_zero, List.set_cons_succ])
    first
      | (refine wpAnyH_take (i := 8) (oi := ⟨(some 48), _, _, _, _, _⟩) (v := ?_) rfl (by kernel_rfl) (by kernel_rfl) (by kernel_rfl) (fun _ _ _ h => h) (Or.inl ⟨by rfl, ?_⟩) (by assumption) ?_; rotate_left; (focus (intro ww hSw; (try dsimp only at hSw); go_simp; (try with_reducible rfl))))
      | (refine wpAnyH_take (i := 8) (oi := ⟨(some 48), _, _, _, _, _⟩) (v := undef) rfl (by kernel_rfl) (by kernel_rfl) (by kernel_rfl) (fun _ _ _ h => h) (Or.inr ⟨by rfl, rfl⟩) (by assumption) ?_)
    (try simp only [Act.put, List.setIfInBounds_toArray, List.set_cons_zero, List.set_cons_succ])
    first
      | (refine wpAnyH_take (i := 9) (oi := ⟨(some 49), _, _, _, _, _⟩) (v := ?_) rfl (by kernel_rfl) (by kernel_rfl) (by kernel_rfl) (fun _ _ _ h => h) (Or.inl ⟨by rfl, ?_⟩) (by assumption) ?_; rotate_left; (focus (intro ww hSw; (try dsimp only at hSw); go_simp; (try with_reducible rfl))))
      | (refine wpAnyH_take (i := 9) (oi := ⟨(some 49), _, _, _, _, _⟩) (v := undef) rfl (by kernel_rfl) (by kernel_rfl) (by kernel_rfl) (fun _ _ _ h => h) (Or.inr ⟨by rfl, rfl⟩) (by assumption) ?_)
    (try simp only [Act.put, List.setIfInBounds_toArray, List.set_cons_zero, List.set_cons_succ])
    first
      | (refine wpAnyH_take (i := 10) (oi := ⟨(some 50), _, _, _, _, _⟩) (v := ?_) rfl (by kernel_rfl) (by kernel_rfl) (by kernel_rfl) (fun _ _ _ h => h) (Or.inl ⟨by rfl, ?_⟩) (by assumption) ?_; rotate_left; (focus (intro ww hSw; (try dsimp only at hSw); go_simp; (try with_reducible rfl))))
      | (refine wpAnyH_take (i := 10) (oi := ⟨(some 50), _, _, _, _, _⟩) (v := undef) rfl (by kernel_rfl) (by kernel_rfl) (by kernel_rfl) (fun _ _ _ h => h) (Or.inr ⟨by rfl, rfl⟩) (by assumption) ?_)
    (try simp only [Act.put, List.setIfInBounds_toArray, List.set_cons_zero, List.set_cons_succ])
    first
      | (refine wpAnyH_take (i := 11) (oi := ⟨(some 51), _, _, _, _, _⟩) (v := ?_) rfl (by kernel_rfl) (by kernel_rfl) (by kernel_rfl) (fun _ _ _ h => h) (Or.inl ⟨by rfl, ?_⟩) (by assumption) ?_; rotate_left; (focus (intro ww hSw; (try dsimp only at hSw); go_simp; (try with_reducible rfl))))
      | (refine wpAnyH_take (i := 11) (oi := ⟨(some 51), _, _, _, _, _⟩) (v := undef) rfl (by kernel_rfl) (by kernel_rfl) (by kernel_rfl) (fun _ _ _ h => h) (Or.inr ⟨by rfl, rfl⟩) (by assumption) ?_)
    (try simp only [Act.put, List.setIfInBounds_toArray, List.set_cons_zero, List.set_cons_succ])
    first
      | (refine wpAnyH_take (i := 12) (oi := ⟨(some 52), _, _, _, _, _⟩) (v := ?_) rfl (by kernel_rfl) (by kernel_rfl) (by kernel_rfl) (fun _ _ _ h => h) (Or.inl ⟨by rfl, ?_⟩) (by assumption) ?_; rotate_left; (focus (intro ww hSw; (try dsimp only at hSw); go_simp; (try with_reducible rfl))))
      | (refine wpAnyH_take (i := 12) (oi := ⟨(some 52), _, _, _, _, _⟩) (v := undef) rfl (by kernel_rfl) (by kernel_rfl) (by kernel_rfl) (fun _ _ _ h => h) (Or.inr ⟨by rfl, rfl⟩) (by assumption) ?_)
    (try simp only [Act.put, List.setIfInBounds_toArray, List.set_cons_zero, List.set_cons_succ])
    first
      | (refine wpAnyH_take (i := 13) (oi := ⟨(some 53), _, _, _, _, _⟩) (v := ?_) rfl (by kernel_rfl) (by kernel_rfl) (by kernel_rfl) (fun _ _ _ h => h) (Or.inl ⟨by rfl, ?_⟩) (by assumption) ?_; rotate_left; (focus (intro ww hSw; (try dsimp only at hSw); go_simp; (try with_reducible rfl))))
      | (refine wpAnyH_take (i := 13) (oi := ⟨(some 53), _, _, _, _, _⟩) (v := undef) rfl (by kernel_rfl) (by kernel_rfl) (by kernel_rfl) (fun _ _ _ h => h) (Or.inr ⟨by rfl, rfl⟩) (by assumption) ?_)
    (try simp only [Act.put, List.setIfInBounds_toArray, List.set_cons_zero, List.set_cons_succ])
    first
      | (refine wpAnyH_take (i := 14) (oi := ⟨(some 54), _, _, _, _, _⟩) (v := ?_) rfl (by kernel_rfl) (by kernel_rfl) (by kernel_rfl) (fun _ _ _ h => h) (Or.inl ⟨by rfl, ?_⟩) (by assumption) ?_; rotate_left; (focus (intro ww hSw; (try dsimp only at hSw); go_simp; (try with_reducible rfl))))
      | (refine wpAnyH_take (i := 14) (oi := ⟨(some 54), _, _, _, _, _⟩) (v := undef) rfl (by kernel_rfl) (by kernel_rfl) (by kernel_rfl) (fun _ _ _ h => h) (Or.inr ⟨by rfl, rfl⟩) (by assumption) ?_)
    (try simp only [Act.put, List.setIfInBounds_toArray, List.set_cons_zero, List.set_cons_succ])
    first
      | (refine wpAnyH_take (i := 15) (oi := ⟨(some 55), _, _, _, _, _⟩) (v := ?_) rfl (by kernel_rfl) (by kernel_rfl) (by kernel_rfl) (fun _ _ _ h => h) (Or.inl ⟨by rfl, ?_⟩) (by assumption) ?_; rotate_left; (focus (intro ww hSw; (try dsimp only at hSw); go_simp; (try with_reducible rfl))))
      | (refine wpAnyH_take (i := 15) (oi := ⟨(some 55), _, _, _, _, _⟩) (v := undef) rfl (by kernel_rfl) (by kernel_rfl) (by kernel_rfl) (fun _ _ _ h => h) (Or.inr ⟨by rfl, rfl⟩) (by assumption) ?_)
    (try simp only [Act.put, List.setIfInBounds_toArray, List.set_cons_zero, List.set_cons_succ])
    first
      | (refine wpAnyH_take (i := 16) (oi := ⟨(some 56), _, _, _, _, _⟩) (v := ?_) rfl (by kernel_rfl) (by kernel_rfl) (by kernel_rfl) (fun _ _ _ h => h) (Or.inl ⟨by rfl, ?_⟩) (by assumption) ?_; rotate_left; (focus (intro ww hSw; (try dsimp only at hSw); go_simp; (try with_reducible rfl))))
      | (refine wpAnyH_take (i := 16) (oi := ⟨(some 56), _, _, _, _, _⟩) (v := undef) rfl (by kernel_rfl) (by kernel_rfl) (by kernel_rfl) (fun _ _ _ h => h) (Or.inr ⟨by rfl, rfl⟩) (by assumption) ?_)
    (try simp only [Act.put, List.setIfInBounds_toArray, List.set_cons_zero, List.set_cons_succ])
    first
      | (refine wpAnyH_take (i := 17) (oi := ⟨(some 57), _, _, _, _, _⟩) (v := ?_) rfl (by kernel_rfl) (by kernel_rfl) (by kernel_rfl) (fun _ _ _ h => h) (Or.inl ⟨by rfl, ?_⟩) (by assumption) ?_; rotate_left; (focus (intro ww hSw; (try dsimp only at hSw); go_simp; (try with_reducible rfl))))
      | (refine wpAnyH_take (i := 17) (oi := ⟨(some 57), _, _, _, _, _⟩) (v := undef) rfl (by kernel_rfl) (by kernel_rfl) (by kernel_rfl) (fun _ _ _ h => h) (Or.inr ⟨by rfl, rfl⟩) (by assumption) ?_)
    (try simp only [Act.put, List.setIfInBounds_toArray, List.set_cons_zero, List.set_cons_succ])
    first
      | (refine wpAnyH_take (i := 18) (oi := ⟨(some 58), _, _, _, _, _⟩) (v := ?_) rfl (by kernel_rfl) (by kernel_rfl) (by kernel_rfl) (fun _ _ _ h => h) (Or.inl ⟨by rfl, ?_⟩) (by assumption) ?_; rotate_left; (focus (intro ww hSw; (try dsimp only at hSw); go_simp; (try with_reducible rfl))))
      | (refine wpAnyH_take (i := 18) (oi := ⟨(some 58), _, _, _, _, _⟩) (v := undef) rfl (by kernel_rfl) (by kernel_rfl) (by kernel_rfl) (fun _ _ _ h => h) (Or.inr ⟨by rfl, rfl⟩) (by assumption) ?_)
    (try simp only [Act.put, List.setIfInBounds_toArray, List.set_cons_zero, List.set_cons_succ])
    first
      | (refine wpAnyH_take (i := 19) (oi := ⟨(some 59), _, _, _, _, _⟩) (v := ?_) rfl (by kernel_rfl) (by kernel_rfl) (by kernel_rfl) (fun _ _ _ h => h) (Or.inl ⟨by rfl, ?_⟩) (by assumption) ?_; rotate_left; (focus (intro ww hSw; (try dsimp only at hSw); go_simp; (try with_reducible rfl))))
      | (refine wpAnyH_take (i := 19) (oi := ⟨(some 59), _, _, _, _, _⟩) (v := undef) rfl (by kernel_rfl) (by kernel_rfl) (by kernel_rfl) (fun _ _ _ h => h) (Or.inr ⟨by rfl, rfl⟩) (by assumption) ?_)
    (try simp only [Act.put, List.setIfInBounds_toArray, List.set_cons_zero, List.set_cons_succ])
    refine wpAnyH_done (by kernel_rfl) ?_ _
    clear hb
    go_wp2
    refine wp_region_held_drew (S := (fun u => u.cell? ⟨w1.heap.size, 0, none⟩ = some (.string (str l)) ∧ u.cell? ⟨w1.heap.size, 1, none⟩ = some (.int .i64 m))) (by kernel_rfl) ?_ (fun hHeld => ?_)
    · (try dsimp only)
      exact two_at HT2.out (by first | assumption | exact Below.drew (by assumption))
    first
      | (refine wpAnyH_take (i := 0) (oi := ⟨(some 60), _, _, _, _, _⟩) (v := ?_) rfl (by kernel_rfl) (by kernel_rfl) (by kernel_rfl) (fun _ _ _ h => h) (Or.inl ⟨by rfl, ?_⟩) (by assumption) ?_; rotate_left; (focus (intro ww hSw; (try dsimp only at hSw); go_simp; (try with_reducible rfl))))
      | (refine wpAnyH_take (i := 0) (oi := ⟨(some 60), _, _, _, _, _⟩) (v := undef) rfl (by kernel_rfl) (by kernel_rfl) (by kernel_rfl) (fun _ _ _ h => h) (Or.inr ⟨by rfl, rfl⟩) (by assumption) ?_)
    (try simp only [Act.put, List.setIfInBounds_toArray, List.set_cons_zero, List.set_cons_succ])
    first
      | (refine wpAnyH_take (i := 1) (oi := ⟨(some 61), _, _, _, _, _⟩) (v := ?_) rfl (by kernel_rfl) (by kernel_rfl) (by kernel_rfl) (fun _ _ _ h => h) (Or.inl ⟨by rfl, ?_⟩) (by assumption) ?_; rotate_left; (focus (intro ww hSw; (try dsimp only at hSw); go_simp; (try with_reducible rfl))))
      | (refine wpAnyH_take (i := 1) (oi := ⟨(some 61), _, _, _, _, _⟩) (v := undef) rfl (by kernel_rfl) (by kernel_rfl) (by kernel_rfl) (fun _ _ _ h => h) (Or.inr ⟨by rfl, rfl⟩) (by assumption) ?_)
    (try simp only [Act.put, List.setIfInBounds_toArray, List.set_cons_zero, List.set_cons_succ])
    refine wpAnyH_ready (rs := [2]) (by kernel_rfl) (by simp) ?_
    refine AllReadyH.cons (o := ⟨(some 62), _, _, _, _, _⟩) rfl (fun K hK => ?_) AllReadyH.nil
    go_simp
    refine (relB (W0 := u2) (by first | assumption | exact Below.drew (by assumption)) (HEQ.out _ (by first | assumption | exact Below.drew (by assumption)))).mono ?_
    rintro e q2 ⟨rfl, hq2⟩
    clear hq1
    go_wp2_with fail
    refine hK.out _ _ ?_ (fun hHeld => ?_)
    · (try dsimp only)
      exact two_at HT2.out (by first | assumption | exact Below.drew (by assumption))
    clear hK K
    (try simp only [Act.put, List.setIfInBounds_toArray, List.set_cons_zero, List.set_cons_succ])
    first
      | (refine wpAnyH_take (i := 3) (oi := ⟨(some 63), _, _, _, _, _⟩) (v := ?_) rfl (by kernel_rfl) (by kernel_rfl) (by kernel_rfl) (fun _ _ _ h => h) (Or.inl ⟨by rfl, ?_⟩) (by assumption) ?_; rotate_left; (focus (intro ww hSw; (try dsimp only at hSw); go_simp; (try with_reducible rfl))))
      | (refine wpAnyH_take (i := 3) (oi := ⟨(some 63), _, _, _, _, _⟩) (v := undef) rfl (by kernel_rfl) (by kernel_rfl) (by kernel_rfl) (fun _ _ _ h => h) (Or.inr ⟨by rfl, rfl⟩) (by assumption) ?_)
    (try simp only [Act.put, List.setIfInBounds_toArray, List.set_cons_zero, List.set_cons_succ])
    first
      | (refine wpAnyH_take (i := 4) (oi := ⟨(some 64), _, _, _, _, _⟩) (v := ?_) rfl (by kernel_rfl) (by kernel_rfl) (by kernel_rfl) (fun _ _ _ h => h) (Or.inl ⟨by rfl, ?_⟩) (by assumption) ?_; rotate_left; (focus (intro ww hSw; (try dsimp only at hSw); go_simp; (try with_reducible rfl))))
      | (refine wpAnyH_take (i := 4) (oi := ⟨(some 64), _, _, _, _, _⟩) (v := undef) rfl (by kernel_rfl) (by kernel_rfl) (by kernel_rfl) (fun _ _ _ h => h) (Or.inr ⟨by rfl, rfl⟩) (by assumption) ?_)
    (try simp only [Act.put, List.setIfInBounds_toArray, List.set_cons_zero, List.set_cons_succ])
    first
      | (refine wpAnyH_take (i := 5) (oi := ⟨(some 65), _, _, _, _, _⟩) (v := ?_) rfl (by kernel_rfl) (by kernel_rfl) (by kernel_rfl) (fun _ _ _ h => h) (Or.inl ⟨by rfl, ?_⟩) (by assumption) ?_; rotate_left; (focus (intro ww hSw; (try dsimp only at hSw); go_simp; (try with_reducible rfl))))
      | (refine wpAnyH_take (i := 5) (oi := ⟨(some 65), _, _, _, _, _⟩) (v := undef) rfl (by kernel_rfl) (by kernel_rfl) (by kernel_rfl) (fun _ _ _ h => h) (Or.inr ⟨by rfl, rfl⟩) (by assumption) ?_)
    (try simp only [Act.put, List.setIfInBounds_toArray, List.set_cons_zero, List.set_cons_succ])
    first
      | (refine wpAnyH_take (i := 6) (oi := ⟨(some 66), _, _, _, _, _⟩) (v := ?_) rfl (by kernel_rfl) (by kernel_rfl) (by kernel_rfl) (fun _ _ _ h => h) (Or.inl ⟨by rfl, ?_⟩) (by assumption) ?_; rotate_left; (focus (intro ww hSw; (try dsimp only at hSw); go_simp; (try with_reducible rfl))))
      | (refine wpAnyH_take (i := 6) (oi := ⟨(some 66), _, _, _, _, _⟩) (v := undef) rfl (by kernel_rfl) (by kernel_rfl) (by kernel_rfl) (fun _ _ _ h => h) (Or.inr ⟨by rfl, rfl⟩) (by assumption) ?_)
    (try simp only [Act.put, List.setIfInBounds_toArray, List.set_cons_zero, List.set_cons_succ])
    first
      | (refine wpAnyH_take (i := 7) (oi := ⟨(some 67), _, _, _, _, _⟩) (v := ?_) rfl (by kernel_rfl) (by kernel_rfl) (by kernel_rfl) (fun _ _ _ h => h) (Or.inl ⟨by rfl, ?_⟩) (by assumption) ?_; rotate_left; (focus (intro ww hSw; (try dsimp only at hSw); go_simp; (try with_reducible rfl))))
      | (refine wpAnyH_take (i := 7) (oi := ⟨(some 67), _, _, _, _, _⟩) (v := undef) rfl (by kernel_rfl) (by kernel_rfl) (by kernel_rfl) (fun _ _ _ h => h) (Or.inr ⟨by rfl, rfl⟩) (by assumption) ?_)
    (try simp only [Act.put, List.setIfInBounds_toArray, List.set_cons_zero, List.set_cons_succ])
    first
      | (refine wpAnyH_take (i := 8) (oi := ⟨(some 68), _, _, _, _, _⟩) (v := ?_) rfl (by kernel_rfl) (by kernel_rfl) (by kernel_rfl) (fun _ _ _ h => h) (Or.inl ⟨by rfl, ?_⟩) (by assumption) ?_; rotate_left; (focus (intro ww hSw; (try dsimp only at hSw); go_simp; (try with_reducible rfl))))
      | (refine wpAnyH_take (i := 8) (oi := ⟨(some 68), _, _, _, _, _⟩) (v := undef) rfl (by kernel_rfl) (by kernel_rfl) (by kernel_rfl) (fun _ _ _ h => h) (Or.inr ⟨by rfl, rfl⟩) (by assumption) ?_)
    (try simp only [Act.put, List.setIfInBounds_toArray, List.set_cons_zero, List.set_cons_succ])
    first
      | (refine wpAnyH_take (i := 9) (oi := ⟨(some 69), _, _, _, _, _⟩) (v := ?_) rfl (by kernel_rfl) (by kernel_rfl) (by kernel_rfl) (fun _ _ _ h => h) (Or.inl ⟨by rfl, ?_⟩) (by assumption) ?_; rotate_left; (focus (intro ww hSw; (try dsimp only at hSw); go_simp; (try with_reducible rfl))))
      | (refine wpAnyH_take (i := 9) (oi := ⟨(some 69), _, _, _, _, _⟩) (v := undef) rfl (by kernel_rfl) (by kernel_rfl) (by kernel_rfl) (fun _ _ _ h => h) (Or.inr ⟨by rfl, rfl⟩) (by assumption) ?_)
    (try simp only [Act.put, List.setIfInBounds_toArray, List.set_cons_zero, List.set_cons_succ])
    first
      | (refine wpAnyH_take (i := 11) (oi := ⟨(some 71), _, _, _, _, _⟩) (v := ?_) rfl (by kernel_rfl) (by kernel_rfl) (by kernel_rfl) (fun _ _ _ h => h) (Or.inl ⟨by rfl, ?_⟩) (by assumption) ?_; rotate_left; (focus (intro ww hSw; (try dsimp only at hSw); go_simp; (try with_reducible rfl))))
      | (refine wpAnyH_take (i := 11) (oi := ⟨(some 71), _, _, _, _, _⟩) (v := undef) rfl (by kernel_rfl) (by kernel_rfl) (by kernel_rfl) (fun _ _ _ h => h) (Or.inr ⟨by rfl, rfl⟩) (by assumption) ?_)
    (try simp only [Act.put, List.setIfInBounds_toArray, List.set_cons_zero, List.set_cons_succ])
    refine wpAnyH_ready (rs := [10]) (by kernel_rfl) (by simp) ?_
    refine AllReadyH.cons (o := ⟨(some 70), _, _, _, _, _⟩) rfl (fun K hK => ?_) AllReadyH.nil
    go_simp
    refine (relB (W0 := u2) (by first | assumption | exact Below.drew (by assumption)) (HPL.out _)).mono ?_
    rintro e q3 ⟨rfl, hq3⟩
    try clear hq2
    try clear hq5
    go_wp2_with fail
    refine hK.out _ _ ?_ (fun hHeld => ?_)
    · (try dsimp only)
      exact two_at HT2.out (by first | assumption | exact Below.drew (by assumption))
    clear hK K
    (try simp only [Act.put, List.setIfInBounds_toArray, List.set_cons_zero, List.set_cons_succ])
    refine wpAnyH_ready (rs := [12]) (by kernel_rfl) (by simp) ?_
    refine AllReadyH.cons (o := ⟨(some 72), _, _, _, _, _⟩) rfl (fun K hK => ?_) AllReadyH.nil
    go_simp
    refine (relB (W0 := u2) (by first | assumption | exact Below.drew (by assumption)) (HPS2.out _)).mono ?_
    rintro e q4 ⟨rfl, hq4⟩
    clear hq3
    go_wp2_with fail
    refine hK.out _ _ ?_ (fun hHeld => ?_)
    · (try dsimp only)
      exact two_at HT2.out (by first | assumption | exact Below.drew (by assumption))
    clear hK K
    (try simp only [Act.put, List.setIfInBounds_toArray, List.set_cons_zero, List.set_cons_succ])
    first
      | (refine wpAnyH_take (i := 13) (oi := ⟨(some 73), _, _, _, _, _⟩) (v := ?_) rfl (by kernel_rfl) (by kernel_rfl) (by kernel_rfl) (fun _ _ _ h => h) (Or.inl ⟨by rfl, ?_⟩) (by assumption) ?_; rotate_left; (focus (intro ww hSw; (try dsimp only at hSw); go_simp; (try with_reducible rfl))))
      | (refine wpAnyH_take (i := 13) (oi := ⟨(some 73), _, _, _, _, _⟩) (v := undef) rfl (by kernel_rfl) (by kernel_rfl) (by kernel_rfl) (fun _ _ _ h => h) (Or.inr ⟨by rfl, rfl⟩) (by assumption) ?_)
    (try simp only [Act.put, List.setIfInBounds_toArray, List.set_cons_zero, List.set_cons_succ])
    first
      | (refine wpAnyH_take (i := 14) (oi := ⟨(some 74), _, _, _, _, _⟩) (v := ?_) rfl (by kernel_rfl) (by kernel_rfl) (by kernel_rfl) (fun _ _ _ h => h) (Or.inl ⟨by rfl, ?_⟩) (by assumption) ?_; rotate_left; (focus (intro ww hSw; (try dsimp only at hSw); go_simp; (try with_reducible rfl))))
      | (refine wpAnyH_take (i := 14) (oi := ⟨(some 74), _, _, _, _, _⟩) (v := undef) rfl (by kernel_rfl) (by kernel_rfl) (by kernel_rfl) (fun _ _ _ h => h) (Or.inr ⟨by rfl, rfl⟩) (by assumption) ?_)
    (try simp only [Act.put, List.setIfInBounds_toArray, List.set_cons_zero, List.set_cons_succ])
    first
      | (refine wpAnyH_take (i := 15) (oi := ⟨(some 75), _, _, _, _, _⟩) (v := ?_) rfl (by kernel_rfl) (by kernel_rfl) (by kernel_rfl) (fun _ _ _ h => h) (Or.inl ⟨by rfl, ?_⟩) (by assumption) ?_; rotate_left; (focus (intro ww hSw; (try dsimp only at hSw); go_simp; (try with_reducible rfl))))
      | (refine wpAnyH_take (i := 15) (oi := ⟨(some 75), _, _, _, _, _⟩) (v := undef) rfl (by kernel_rfl) (by kernel_rfl) (by kernel_rfl) (fun _ _ _ h => h) (Or.inr ⟨by rfl, rfl⟩) (by assumption) ?_)
    (try simp only [Act.put, List.setIfInBounds_toArray, List.set_cons_zero, List.set_cons_succ])
    first
      | (refine wpAnyH_take (i := 16) (oi := ⟨(some 76), _, _, _, _, _⟩) (v := ?_) rfl (by kernel_rfl) (by kernel_rfl) (by kernel_rfl) (fun _ _ _ h => h) (Or.inl ⟨by rfl, ?_⟩) (by assumption) ?_; rotate_left; (focus (intro ww hSw; (try dsimp only at hSw); go_simp; (try with_reducible rfl))))
      | (refine wpAnyH_take (i := 16) (oi := ⟨(some 76), _, _, _, _, _⟩) (v := undef) rfl (by kernel_rfl) (by kernel_rfl) (by kernel_rfl) (fun _ _ _ h => h) (Or.inr ⟨by rfl, rfl⟩) (by assumption) ?_)
    (try simp only [Act.put, List.setIfInBounds_toArray, List.set_cons_zero, List.set_cons_succ])
    first
      | (refine wpAnyH_take (i := 18) (oi := ⟨(some 78), _, _, _, _, _⟩) (v := ?_) rfl (by kernel_rfl) (by kernel_rfl) (by kernel_rfl) (fun _ _ _ h => h) (Or.inl ⟨by rfl, ?_⟩) (by assumption) ?_; rotate_left; (focus (intro ww hSw; (try dsimp only at hSw); go_simp; (try with_reducible rfl))))
      | (refine wpAnyH_take (i := 18) (oi := ⟨(some 78), _, _, _, _, _⟩) (v := undef) rfl (by kernel_rfl) (by kernel_rfl) (by kernel_rfl) (fun _ _ _ h => h) (Or.inr ⟨by rfl, rfl⟩) (by assumption) ?_)
    (try simp only [Act.put, List.setIfInBounds_toArray, List.set_cons_zero, List.set_cons_succ])
    refine wpAnyH_ready (rs := [17]) (by kernel_rfl) (by simp) ?_
    refine AllReadyH.cons (o := ⟨(some 77), _, _, _, _, _⟩) rfl (fun K hK => ?_) AllReadyH.nil
    go_simp
    refine (relB (W0 := u2) (by first | assumption | exact Below.drew (by assumption)) (HPV.out _)).mono ?_
    rintro e q5 ⟨rfl, hq5⟩
    clear hq4
    go_wp2_with fail
    refine hK.out _ _ ?_ (fun hHeld => ?_)
    · (try dsimp only)
      exact two_at HT2.out (by first | assumption | exact Below.drew (by assumption))
    clear hK K
    (try simp only [Act.put, List.setIfInBounds_toArray, List.set_cons_zero, List.set_cons_succ])
    refine wpAnyH_ready (rs := [19]) (by kernel_rfl) (by simp) ?_
    refine AllReadyH.cons (o := ⟨(some 79), _, _, _, _, _⟩) rfl (fun K hK => ?_) AllReadyH.nil
    go_simp
    refine (relB (W0 := u2) (by first | assumption | exact Below.drew (by assumption)) (HPL.out _)).mono ?_
    rintro e q3 ⟨rfl, hq3⟩
    try clear hq2
    try clear hq5
    go_wp2_with fail
    refine hK.out _ _ ?_ (fun hHeld => ?_)
    · (try dsimp only)
      exact two_at HT2.out (by first | assumption | exact Below.drew (by assumption))
    clear hK K
    (try simp only [Act.put, List.setIfInBounds_toArray, List.set_cons_zero, List.set_cons_succ])
    first
      | (refine wpAnyH_take (i := 20) (oi := ⟨(some 80), _, _, _, _, _⟩) (v := ?_) rfl (by kernel_rfl) (by kernel_rfl) (by kernel_rfl) (fun _ _ _ h => h) (Or.inl ⟨by rfl, ?_⟩) (by assumption) ?_; rotate_left; (focus (intro ww hSw; (try dsimp only at hSw); go_simp; (try with_reducible rfl))))
      | (refine wpAnyH_take (i := 20) (oi := ⟨(some 80), _, _, _, _, _⟩) (v := undef) rfl (by kernel_rfl) (by kernel_rfl) (by kernel_rfl) (fun _ _ _ h => h) (Or.inr ⟨by rfl, rfl⟩) (by assumption) ?_)
    (try simp only [Act.put, List.setIfInBounds_toArray, List.set_cons_zero, List.set_cons_succ])
    first
      | (refine wpAnyH_take (i := 21) (oi := ⟨(some 81), _, _, _, _, _⟩) (v := ?_) rfl (by kernel_rfl) (by kernel_rfl) (by kernel_rfl) (fun _ _ _ h => h) (Or.inl ⟨by rfl, ?_⟩) (by assumption) ?_; rotate_left; (focus (intro ww hSw; (try dsimp only at hSw); go_simp; (try with_reducible rfl))))
      | (refine wpAnyH_take (i := 21) (oi := ⟨(some 81), _, _, _, _, _⟩) (v := undef) rfl (by kernel_rfl) (by kernel_rfl) (by kernel_rfl) (fun _ _ _ h => h) (Or.inr ⟨by rfl, rfl⟩) (by assumption) ?_)
    (try simp only [Act.put, List.setIfInBounds_toArray, List.set_cons_zero, List.set_cons_succ])
    first
      | (refine wpAnyH_take (i := 22) (oi := ⟨(some 82), _, _, _, _, _⟩) (v := ?_) rfl (by kernel_rfl) (by kernel_rfl) (by kernel_rfl) (fun _ _ _ h => h) (Or.inl ⟨by rfl, ?_⟩) (by assumption) ?_; rotate_left; (focus (intro ww hSw; (try dsimp only at hSw); go_simp; (try with_reducible rfl))))
      | (refine wpAnyH_take (i := 22) (oi := ⟨(some 82), _, _, _, _, _⟩) (v := undef) rfl (by kernel_rfl) (by kernel_rfl) (by kernel_rfl) (fun _ _ _ h => h) (Or.inr ⟨by rfl, rfl⟩) (by assumption) ?_)
    (try simp only [Act.put, List.setIfInBounds_toArray, List.set_cons_zero, List.set_cons_succ])
    first
      | (refine wpAnyH_take (i := 23) (oi := ⟨(some 2), _, _, _, _, _⟩) (v := ?_) rfl (by kernel_rfl) (by kernel_rfl) (by kernel_rfl) (fun _ _ _ h => h) (Or.inl ⟨by rfl, ?_⟩) (by assumption) ?_; rotate_left; (focus (intro ww hSw; (try dsimp only at hSw); go_simp; (try with_reducible rfl))))
      | (refine wpAnyH_take (i := 23) (oi := ⟨(some 2), _, _, _, _, _⟩) (v := undef) rfl (by kernel_rfl) (by kernel_rfl) (by kernel_rfl) (fun _ _ _ h => h) (Or.inr ⟨by rfl, rfl⟩) (by assumption) ?_)
    (try simp only [Act.put, List.setIfInBounds_toArray, List.set_cons_zero, List.set_cons_succ])
    refine wpAnyH_done (by kernel_rfl) ?_ _
    go_wp2
    go_ret
    exact ⟨rfl, HB2.out.trans (hq3.mono hwU)⟩
  | true =>
    rw [hok] at hPI hPS
    obtain ⟨hoff, hk0, hk3, hga, hgb⟩ := ps_parts hok
    obtain ⟨hp, hx0, hxL⟩ := off_parts hoff
    have hpp := pilot_parts hp
    obtain ⟨mm, rfl⟩ : ∃ mm : Nat, m = (mm : Int) := ⟨m.toNat, by omega⟩
    obtain ⟨off, rfl⟩ : ∃ off : Nat, x = (off : Int) := ⟨x.toNat, by omega⟩
    obtain ⟨K, rfl⟩ : ∃ K : Nat, k = (K : Int) := ⟨k.toNat, by omega⟩
    rw [zl] at hxL hpp
    obtain ⟨N, hN⟩ : ∃ N : Nat, N = l.length * mm := ⟨_, rfl⟩
    have hNI : (l.length : Int) * (mm : Int) = (N : Int) := by rw [hN, Int.natCast_mul]
    rw [hNI] at hxL hpp
    have hN1 : 1 ≤ N := by omega
    have hN2 : N ≤ 2040 := by omega
    have hoN : off < N := by omega
    have hLen : L.length = K := by rw [HLE.out, ps_yes hok]; simp
    obtain ⟨M, hM, hMN, hM3⟩ : ∃ M : Nat, M = min (N + K) 3000 ∧ 1 ≤ M ∧ M ≤ 3000 := ⟨min (N + K) 3000, rfl, by omega, by omega⟩
    have HME := Lib.hid hM
    clear hM
    have hoff0 : offOK (str l) (mm : Int) ((0 : Nat) : Int) = true := by rw [off_in hp, inB_yes (by omega) (by rw [zl, hNI]; omega)]
    have hok2 : psOK (str l) (mm : Int) ((0 : Nat) : Int) (M : Int) g = true := ps_ok hoff0 ⟨by omega, by omega⟩ ⟨hga, hgb⟩
    obtain ⟨F, hF⟩ : ∃ F, F = psL (str l) (mm : Int) 0 (M : Int) g := ⟨_, rfl⟩
    have hFl : F.length = M := by rw [hF]; have := ps_yes hok2; simp only [Int.ofNat_zero, Int.natCast_zero] at this; rw [this]; simp
    have HSV : Hid (∀ j, j < K → L.getD j 0 = g * pchip l mm off j) := Lib.hid fun j hj => by rw [HLE.out, ps_yes hok, str_list]; simp [List.getD_eq_getElem?_getD, hj]
    have HFV : Hid (∀ j, j < M → F.getD j 0 = g * pchip l mm 0 j) := Lib.hid fun j hj => by rw [hF]; have := ps_yes hok2; simp only [Int.ofNat_zero, Int.natCast_zero] at this; rw [this, str_list]; simp [List.getD_eq_getElem?_getD, hj]
    have HN := Lib.hid hN
    have HPL : Hid (∀ u : World, Calls Try.prog 13 #[.agg #[.string (str l), .int .i64 (mm : Int)]] u fun e w' => e = .returned (.int .i64 (N : Int)) ∧ Below u.heap.size u w') := fun u => by
      have hh := plenI_any (str l) mm u hm
      rw [pilotLen_yes hp, zl, hNI] at hh
      exact hh
    have HPS2 : Hid (∀ u : World, Calls Try.prog 18 #[.agg #[.string (str l), .int .i64 (mm : Int)]] u fun e w' => e = .returned (.int .i64 (N : Int)) ∧ Below u.heap.size u w') := fun u => by
      have hh := plenS_any (str l) mm u hm
      rw [pilotLen_yes hp, zl, hNI] at hh
      exact hh
    have HPV : Hid (∀ u : World, Calls Try.prog 19 #[.agg #[.string (str l), .int .i64 (mm : Int)]] u fun e w' => e = .returned (.bool true) ∧ Below u.heap.size u w') := fun u => by
      have hh := pilotI_any (str l) mm u hm
      rw [hp] at hh
      exact hh
    have HFI : Hid (∀ (MI : Int) (u : World), MI = (M : Int) → Calls Try.prog 20 #[.agg #[.string (str l), .int .i64 (mm : Int)], .int .i64 0, .int .i64 MI, .int .i64 g] u (RetL F u)) := Lib.hid fun MI u hMI => by rw [hF, hMI]; exact ssPilot_any (str l) mm 0 M g u hm
    have HBW := Lib.hid hbW
    clear hok hok2 hoff hoff0 hp hF hN
    refine (hPI.out _).mono ?_
    rintro e u1 ⟨v1, rfl, hs1, k1⟩
    have hT1 := hTwo.below k1
    obtain ⟨c0, c1, cf, cl⟩ := id hT1
    have hBw1 := hbW.trans (k1.mono hbW.size)
    have HS1 := Lib.hid hs1
    have HT1 := Lib.hid hT1
    have HB1 := Lib.hid hBw1
    clear hs1 hT1 hTwo hbW k1 hBw1
    go_wp2_with fail
    refine (hPS.out _).mono ?_
    rintro e u2 ⟨v2, rfl, hs2, k2⟩
    have HT2 := Lib.hid (HT1.out.below k2)
    have HB2 := Lib.hid (HB1.out.trans (k2.mono HB1.out.size))
    have HS12 := Lib.hid (HS1.out.below k2 (Nat.le_refl _))
    have hs12 := HS12.out
    have HEQ : Hid (∀ u : World, Below u2.heap.size u2 u → Calls Try.prog 17 #[v1, v2] u fun e u' => e = .returned (.bool true) ∧ Below u.heap.size u u') := Lib.hid fun u hu => ssIntsS_any (hs12.below hu k2.size) (hs2.below hu (Nat.le_refl _)) (Nat.le_trans k2.size hu.size) hu.size (by omega)
    have hb := Below.refl u2.heap.size u2
    have hwU := HB2.out.size
    have HK2 := Lib.hid k2.size
    clear c0 c1 cf cl hs2 hs12 k2 HS1
    go_wp2
    refine wp_region_held_drew (S := (fun u => u.cell? ⟨w1.heap.size, 0, none⟩ = some (.string (str l)) ∧ u.cell? ⟨w1.heap.size, 1, none⟩ = some (.int .i64 (mm : Int)))) (by kernel_rfl) ?_ (fun hHeld => ?_)
    · (try dsimp only)
      exact two_at HT2.out (by first | assumption | exact Below.drew (by assumption))
    first
      | (refine wpAnyH_take (i := 0) (oi := ⟨(some 40), _, _, _, _, _⟩) (v := ?_) rfl (by kernel_rfl) (by kernel_rfl) (by kernel_rfl) (fun _ _ _ h => h) (Or.inl ⟨by rfl, ?_⟩) (by assumption) ?_; rotate_left; (focus (intro ww hSw; (try dsimp only at hSw); go_simp; (try with_reducible rfl))))
      | (refine wpAnyH_take (i := 0) (oi := ⟨(some 40), _, _, _, _, _⟩) (v := undef) rfl (by kernel_rfl) (by kernel_rfl) (by kernel_rfl) (fun _ _ _ h => h) (Or.inr ⟨by rfl, rfl⟩) (by assumption) ?_)
    (try simp only [Act.put, List.setIfInBounds_toArray, List.set_cons_zero, List.set_cons_succ])
    first
      | (refine wpAnyH_take (i := 1) (oi := ⟨(some 41), _, _, _, _, _⟩) (v := ?_) rfl (by kernel_rfl) (by kernel_rfl) (by kernel_rfl) (fun _ _ _ h => h) (Or.inl ⟨by rfl, ?_⟩) (by assumption) ?_; rotate_left; (focus (intro ww hSw; (try dsimp only at hSw); go_simp; (try with_reducible rfl))))
      | (refine wpAnyH_take (i := 1) (oi := ⟨(some 41), _, _, _, _, _⟩) (v := undef) rfl (by kernel_rfl) (by kernel_rfl) (by kernel_rfl) (fun _ _ _ h => h) (Or.inr ⟨by rfl, rfl⟩) (by assumption) ?_)
    (try simp only [Act.put, List.setIfInBounds_toArray, List.set_cons_zero, List.set_cons_succ])
    refine wpAnyH_ready (rs := [2]) (by kernel_rfl) (by simp) ?_
    refine AllReadyH.cons (o := ⟨(some 42), _, _, _, _, _⟩) rfl (fun K hK => ?_) AllReadyH.nil
    go_simp
    refine (relB (W0 := u2) (by first | assumption | exact Below.drew (by assumption)) (HEQ.out _ (by first | assumption | exact Below.drew (by assumption)))).mono ?_
    rintro e q1 ⟨rfl, hq1⟩
    go_wp2_with fail
    refine hK.out _ _ ?_ (fun hHeld => ?_)
    · (try dsimp only)
      exact two_at HT2.out (by first | assumption | exact Below.drew (by assumption))
    clear hK K
    (try simp only [Act.put, List.setIfInBounds_toArray, List.set_cons_zero, List.set_cons_succ])
    first
      | (refine wpAnyH_take (i := 3) (oi := ⟨(some 43), _, _, _, _, _⟩) (v := ?_) rfl (by kernel_rfl) (by kernel_rfl) (by kernel_rfl) (fun _ _ _ h => h) (Or.inl ⟨by rfl, ?_⟩) (by assumption) ?_; rotate_left; (focus (intro ww hSw; (try dsimp only at hSw); go_simp; (try with_reducible rfl))))
      | (refine wpAnyH_take (i := 3) (oi := ⟨(some 43), _, _, _, _, _⟩) (v := undef) rfl (by kernel_rfl) (by kernel_rfl) (by kernel_rfl) (fun _ _ _ h => h) (Or.inr ⟨by rfl, rfl⟩) (by assumption) ?_)
    (try simp only [Act.put, List.setIfInBounds_toArray, List.set_cons_zero, List.set_cons_succ])
    first
      | (refine wpAnyH_take (i := 4) (oi := ⟨(some 44), _, _, _, _, _⟩) (v := ?_) rfl (by kernel_rfl) (by kernel_rfl) (by kernel_rfl) (fun _ _ _ h => h) (Or.inl ⟨by rfl, ?_⟩) (by assumption) ?_; rotate_left; (focus (intro ww hSw; (try dsimp only at hSw); go_simp; (try with_reducible rfl))))
      | (refine wpAnyH_take (i := 4) (oi := ⟨(some 44), _, _, _, _, _⟩) (v := undef) rfl (by kernel_rfl) (by kernel_rfl) (by kernel_rfl) (fun _ _ _ h => h) (Or.inr ⟨by rfl, rfl⟩) (by assumption) ?_)
    (try simp only [Act.put, List.setIfInBounds_toArray, List.set_cons_zero, List.set_cons_succ])
    first
      | (refine wpAnyH_take (i := 5) (oi := ⟨(some 45), _, _, _, _, _⟩) (v := ?_) rfl (by kernel_rfl) (by kernel_rfl) (by kernel_rfl) (fun _ _ _ h => h) (Or.inl ⟨by rfl, ?_⟩) (by assumption) ?_; rotate_left; (focus (intro ww hSw; (try dsimp only at hSw); go_simp; (try with_reducible rfl))))
      | (refine wpAnyH_take (i := 5) (oi := ⟨(some 45), _, _, _, _, _⟩) (v := undef) rfl (by kernel_rfl) (by kernel_rfl) (by kernel_rfl) (fun _ _ _ h => h) (Or.inr ⟨by rfl, rfl⟩) (by assumption) ?_)
    (try simp only [Act.put, List.setIfInBounds_toArray, List.set_cons_zero, List.set_cons_succ])
    first
      | (refine wpAnyH_take (i := 6) (oi := ⟨(some 46), _, _, _, _, _⟩) (v := ?_) rfl (by kernel_rfl) (by kernel_rfl) (by kernel_rfl) (fun _ _ _ h => h) (Or.inl ⟨by rfl, ?_⟩) (by assumption) ?_; rotate_left; (focus (intro ww hSw; (try dsimp only at hSw); go_simp; (try with_reducible rfl))))
      | (refine wpAnyH_take (i := 6) (oi := ⟨(some 46), _, _, _, _, _⟩) (v := undef) rfl (by kernel_rfl) (by kernel_rfl) (by kernel_rfl) (fun _ _ _ h => h) (Or.inr ⟨by rfl, rfl⟩) (by assumption) ?_)
    (try simp only [Act.put, List.setIfInBounds_toArray, List.set_cons_zero, List.set_cons_succ])
    first
      | (refine wpAnyH_take (i := 7) (oi := ⟨(some 47), _, _, _, _, _⟩) (v := ?_) rfl (by kernel_rfl) (by kernel_rfl) (by kernel_rfl) (fun _ _ _ h => h) (Or.inl ⟨by rfl, ?_⟩) (by assumption) ?_; rotate_left; (focus (intro ww hSw; (try dsimp only at hSw); go_simp; (try with_reducible rfl))))
      | (refine wpAnyH_take (i := 7) (oi := ⟨(some 47), _, _, _, _, _⟩) (v := undef) rfl (by kernel_rfl) (by kernel_rfl) (by kernel_rfl) (fun _ _ _ h => h) (Or.inr ⟨by rfl, rfl⟩) (by assumption) ?_)
    (try simp only [Act.put, List.setIfInBounds_toArray, List.set_cons_zero, List.set_cons_succ])
    first
      | (refine wpAnyH_take (i := 8) (oi := ⟨(some 48), _, _, _, _, _⟩) (v := ?_) rfl (by kernel_rfl) (by kernel_rfl) (by kernel_rfl) (fun _ _ _ h => h) (Or.inl ⟨by rfl, ?_⟩) (by assumption) ?_; rotate_left; (focus (intro ww hSw; (try dsimp only at hSw); go_simp; (try with_reducible rfl))))
      | (refine wpAnyH_take (i := 8) (oi := ⟨(some 48), _, _, _, _, _⟩) (v := undef) rfl (by kernel_rfl) (by kernel_rfl) (by kernel_rfl) (fun _ _ _ h => h) (Or.inr ⟨by rfl, rfl⟩) (by assumption) ?_)
    (try simp only [Act.put, List.setIfInBounds_toArray, List.set_cons_zero, List.set_cons_succ])
    first
      | (refine wpAnyH_take (i := 9) (oi := ⟨(some 49), _, _, _, _, _⟩) (v := ?_) rfl (by kernel_rfl) (by kernel_rfl) (by kernel_rfl) (fun _ _ _ h => h) (Or.inl ⟨by rfl, ?_⟩) (by assumption) ?_; rotate_left; (focus (intro ww hSw; (try dsimp only at hSw); go_simp; (try with_reducible rfl))))
      | (refine wpAnyH_take (i := 9) (oi := ⟨(some 49), _, _, _, _, _⟩) (v := undef) rfl (by kernel_rfl) (by kernel_rfl) (by kernel_rfl) (fun _ _ _ h => h) (Or.inr ⟨by rfl, rfl⟩) (by assumption) ?_)
    (try simp only [Act.put, List.setIfInBounds_toArray, List.set_cons_zero, List.set_cons_succ])
    first
      | (refine wpAnyH_take (i := 10) (oi := ⟨(some 50), _, _, _, _, _⟩) (v := ?_) rfl (by kernel_rfl) (by kernel_rfl) (by kernel_rfl) (fun _ _ _ h => h) (Or.inl ⟨by rfl, ?_⟩) (by assumption) ?_; rotate_left; (focus (intro ww hSw; (try dsimp only at hSw); go_simp; (try with_reducible rfl))))
      | (refine wpAnyH_take (i := 10) (oi := ⟨(some 50), _, _, _, _, _⟩) (v := undef) rfl (by kernel_rfl) (by kernel_rfl) (by kernel_rfl) (fun _ _ _ h => h) (Or.inr ⟨by rfl, rfl⟩) (by assumption) ?_)
    (try simp only [Act.put, List.setIfInBounds_toArray, List.set_cons_zero, List.set_cons_succ])
    first
      | (refine wpAnyH_take (i := 11) (oi := ⟨(some 51), _, _, _, _, _⟩) (v := ?_) rfl (by kernel_rfl) (by kernel_rfl) (by kernel_rfl) (fun _ _ _ h => h) (Or.inl ⟨by rfl, ?_⟩) (by assumption) ?_; rotate_left; (focus (intro ww hSw; (try dsimp only at hSw); go_simp; (try with_reducible rfl))))
      | (refine wpAnyH_take (i := 11) (oi := ⟨(some 51), _, _, _, _, _⟩) (v := undef) rfl (by kernel_rfl) (by kernel_rfl) (by kernel_rfl) (fun _ _ _ h => h) (Or.inr ⟨by rfl, rfl⟩) (by assumption) ?_)
    (try simp only [Act.put, List.setIfInBounds_toArray, List.set_cons_zero, List.set_cons_succ])
    first
      | (refine wpAnyH_take (i := 12) (oi := ⟨(some 52), _, _, _, _, _⟩) (v := ?_) rfl (by kernel_rfl) (by kernel_rfl) (by kernel_rfl) (fun _ _ _ h => h) (Or.inl ⟨by rfl, ?_⟩) (by assumption) ?_; rotate_left; (focus (intro ww hSw; (try dsimp only at hSw); go_simp; (try with_reducible rfl))))
      | (refine wpAnyH_take (i := 12) (oi := ⟨(some 52), _, _, _, _, _⟩) (v := undef) rfl (by kernel_rfl) (by kernel_rfl) (by kernel_rfl) (fun _ _ _ h => h) (Or.inr ⟨by rfl, rfl⟩) (by assumption) ?_)
    (try simp only [Act.put, List.setIfInBounds_toArray, List.set_cons_zero, List.set_cons_succ])
    first
      | (refine wpAnyH_take (i := 13) (oi := ⟨(some 53), _, _, _, _, _⟩) (v := ?_) rfl (by kernel_rfl) (by kernel_rfl) (by kernel_rfl) (fun _ _ _ h => h) (Or.inl ⟨by rfl, ?_⟩) (by assumption) ?_; rotate_left; (focus (intro ww hSw; (try dsimp only at hSw); go_simp; (try with_reducible rfl))))
      | (refine wpAnyH_take (i := 13) (oi := ⟨(some 53), _, _, _, _, _⟩) (v := undef) rfl (by kernel_rfl) (by kernel_rfl) (by kernel_rfl) (fun _ _ _ h => h) (Or.inr ⟨by rfl, rfl⟩) (by assumption) ?_)
    (try simp only [Act.put, List.setIfInBounds_toArray, List.set_cons_zero, List.set_cons_succ])
    first
      | (refine wpAnyH_take (i := 14) (oi := ⟨(some 54), _, _, _, _, _⟩) (v := ?_) rfl (by kernel_rfl) (by kernel_rfl) (by kernel_rfl) (fun _ _ _ h => h) (Or.inl ⟨by rfl, ?_⟩) (by assumption) ?_; rotate_left; (focus (intro ww hSw; (try dsimp only at hSw); go_simp; (try with_reducible rfl))))
      | (refine wpAnyH_take (i := 14) (oi := ⟨(some 54), _, _, _, _, _⟩) (v := undef) rfl (by kernel_rfl) (by kernel_rfl) (by kernel_rfl) (fun _ _ _ h => h) (Or.inr ⟨by rfl, rfl⟩) (by assumption) ?_)
    (try simp only [Act.put, List.setIfInBounds_toArray, List.set_cons_zero, List.set_cons_succ])
    first
      | (refine wpAnyH_take (i := 16) (oi := ⟨(some 56), _, _, _, _, _⟩) (v := ?_) rfl (by kernel_rfl) (by kernel_rfl) (by kernel_rfl) (fun _ _ _ h => h) (Or.inl ⟨by rfl, ?_⟩) (by assumption) ?_; rotate_left; (focus (intro ww hSw; (try dsimp only at hSw); go_simp; (try with_reducible rfl))))
      | (refine wpAnyH_take (i := 16) (oi := ⟨(some 56), _, _, _, _, _⟩) (v := undef) rfl (by kernel_rfl) (by kernel_rfl) (by kernel_rfl) (fun _ _ _ h => h) (Or.inr ⟨by rfl, rfl⟩) (by assumption) ?_)
    (try simp only [Act.put, List.setIfInBounds_toArray, List.set_cons_zero, List.set_cons_succ])
    refine wpAnyH_ready (rs := [15]) (by kernel_rfl) (by simp) ?_
    refine AllReadyH.cons (o := ⟨(some 55), _, _, _, _, _⟩) rfl (fun K hK => ?_) AllReadyH.nil
    go_simp
    refine (relB (W0 := u2) (by first | assumption | exact Below.drew (by assumption)) (HPL.out _)).mono ?_
    rintro e q2 ⟨rfl, hq2⟩
    clear hq1
    go_wp2_with fail
    refine hK.out _ _ ?_ (fun hHeld => ?_)
    · (try dsimp only)
      exact two_at HT2.out (by first | assumption | exact Below.drew (by assumption))
    clear hK K
    (try simp only [Act.put, List.setIfInBounds_toArray, List.set_cons_zero, List.set_cons_succ])
    refine wpAnyH_ready (rs := [17]) (by kernel_rfl) (by simp) ?_
    refine AllReadyH.cons (o := ⟨(some 57), _, _, _, _, _⟩) rfl (fun K hK => ?_) AllReadyH.nil
    go_simp
    refine (relB (W0 := u2) (by first | assumption | exact Below.drew (by assumption)) (HPS2.out _)).mono ?_
    rintro e q3 ⟨rfl, hq3⟩
    clear hq2
    go_wp2_with fail
    refine hK.out _ _ ?_ (fun hHeld => ?_)
    · (try dsimp only)
      exact two_at HT2.out (by first | assumption | exact Below.drew (by assumption))
    clear hK K
    (try simp only [Act.put, List.setIfInBounds_toArray, List.set_cons_zero, List.set_cons_succ])
    first
      | (refine wpAnyH_take (i := 18) (oi := ⟨(some 58), _, _, _, _, _⟩) (v := ?_) rfl (by kernel_rfl) (by kernel_rfl) (by kernel_rfl) (fun _ _ _ h => h) (Or.inl ⟨by rfl, ?_⟩) (by assumption) ?_; rotate_left; (focus (intro ww hSw; (try dsimp only at hSw); go_simp; (try with_reducible rfl))))
      | (refine wpAnyH_take (i := 18) (oi := ⟨(some 58), _, _, _, _, _⟩) (v := undef) rfl (by kernel_rfl) (by kernel_rfl) (by kernel_rfl) (fun _ _ _ h => h) (Or.inr ⟨by rfl, rfl⟩) (by assumption) ?_)
    (try simp only [Act.put, List.setIfInBounds_toArray, List.set_cons_zero, List.set_cons_succ])
    first
      | (refine wpAnyH_take (i := 19) (oi := ⟨(some 59), _, _, _, _, _⟩) (v := ?_) rfl (by kernel_rfl) (by kernel_rfl) (by kernel_rfl) (fun _ _ _ h => h) (Or.inl ⟨by rfl, ?_⟩) (by assumption) ?_; rotate_left; (focus (intro ww hSw; (try dsimp only at hSw); go_simp; (try with_reducible rfl))))
      | (refine wpAnyH_take (i := 19) (oi := ⟨(some 59), _, _, _, _, _⟩) (v := undef) rfl (by kernel_rfl) (by kernel_rfl) (by kernel_rfl) (fun _ _ _ h => h) (Or.inr ⟨by rfl, rfl⟩) (by assumption) ?_)
    (try simp only [Act.put, List.setIfInBounds_toArray, List.set_cons_zero, List.set_cons_succ])
    refine wpAnyH_done (by kernel_rfl) ?_ _
    clear hb
    obtain ⟨c0, c1⟩ := two_at HT2.out hq3
    go_wp2_with fail
    refine (HPL.out _).mono ?_
    rintro e q4 ⟨rfl, k4⟩
    have hq4 := below_next hq3 k4
    clear hq3 k4 c0 c1
    obtain ⟨c0, c1⟩ := two_at HT2.out hq4
    go_wp2_with fail
    all_goals
      refine (HFI.out _ _ (by have := HME.out; omega)).mono ?_
      rintro e U ⟨v3, rfl, hs3, k5⟩
      have hq5 := below_next hq4 k5
      have HTU := Lib.hid (HT2.out.below hq5)
      have HBU := Lib.hid (HB2.out.trans (hq5.mono hwU))
      obtain ⟨A1, p1, rfl, hr1, hcp1⟩ := (HS12.out.below hq5 HK2.out).reads
      obtain ⟨A3, p3, rfl, hr3, hcp3⟩ := hs3.reads
      have HR1 := Lib.hid (hr1.more (Nat.le_trans HK2.out hq5.size))
      have HR3 := Lib.hid hr3
      have hb := Below.refl U.heap.size U
      have hwU2 := HBU.out.size
      rw [hLen, hFl]
      clear hq4 hq5 k5 c0 c1 hs3 hr1 hr3 HS12 HK2 HEQ hPI hPS HT1 HB1 HT2 HB2 HBW hwU hcp1 hcp3
      obtain ⟨sq0, sq1⟩ := sq_bd hga hgb
      go_wp2
      go_loopw [13] (fun i wr => ∃ k : Nat, i = .int .i64 (k : Int) ∧ k ≤ K ∧ Below U.heap.size U wr) (fun i _ => K - (intOf i).toNat)
      case atStart => exact ⟨0, rfl, Nat.zero_le _, hb⟩
      case round =>
        clear hb
        obtain ⟨k, rfl, hk, hb⟩ := hrel
        by_cases hlt : k < K
        · obtain ⟨ad, rfl, hadb, hcell⟩ := HR1.out (by omega)
          have c1 := hcell k (by omega)
          rw [HSV.out k hlt] at c1
          have ht := pchip_two l mm off k
          have hab := abs_chip hga hgb ht
          have hsq := sq_chip (g := g) ht
          obtain ⟨V, hV⟩ : ∃ V, V = g * pchip l mm off k := ⟨_, rfl⟩
          have HVE := Lib.hid hV
          rw [← hV] at c1 hab hsq
          have c1' : wr.cell? (ad.add k) = some (.int .i64 V) := by rw [hb.cell (by rw [add_block]; exact hadb)]; exact c1
          clear c1 ht hV
          obtain ⟨va, vb⟩ := hab
          have c2 : N ≤ k → wr.cell? (ad.add (k - N)) = some (.int .i64 V) := fun h => by
            rw [hb.cell (by rw [add_block]; exact hadb), hcell (k - N) (by omega), HSV.out (k - N) (by omega), HVE.out, HN.out, pchip_back (by rw [← HN.out]; exact h)]
          obtain ⟨Q, hQ, hQN, hQe⟩ : ∃ Q : Nat, ((N : Int) - (off : Int) + (k : Int)) % (N : Int) = (Q : Int) ∧ Q < N ∧ Q = (N - off + k) % N := ⟨(N - off + k) % N, by rw [show (N : Int) - (off : Int) + (k : Int) = ((N - off + k : Nat) : Int) by omega]; simp, Nat.mod_lt _ (by omega), rfl⟩
          have hQle : Q ≤ N - off + k := by rw [hQe]; exact Nat.mod_le _ _
          have c3 : N - off + k < M → ∃ ad3, A3 = some ad3 ∧ wr.cell? (ad3.add Q) = some (.int .i64 V) := fun h => by
            obtain ⟨ad3, e3, hb3, hc3⟩ := HR3.out (by omega)
            refine ⟨ad3, e3, ?_⟩
            rw [hb.cell (by rw [add_block]; exact hb3), hc3 Q (by omega), HFV.out Q (by omega), hQe, HN.out, pchip_first (by rw [← HN.out]; omega) (by rw [← HN.out]; omega), HVE.out]
          have C2 := Lib.hid c2
          have C3 := Lib.hid c3
          have w1 : ((N : Int) - (off : Int)) + (k : Int) = (N : Int) - (off : Int) + (k : Int) := rfl
          clear c2 c3 hcell hQe
          by_cases h1 : N ≤ k
          · have c2 := C2.out h1
            obtain ⟨R, hR, hRk⟩ : ∃ R : Nat, (k : Int) - (N : Int) = (R : Int) ∧ R = k - N := ⟨k - N, by omega, rfl⟩
            rw [← hRk] at c2
            have hRlt : (R : Int) < (K : Int) := by omega
            clear hRk
            have d1 : decide ((N : Int) ≤ (k : Int)) = true := decide_eq_true (by omega)
            by_cases h2 : N - off + k < M
            · obtain ⟨ad3, rfl, c3⟩ := C3.out h2
              have d2 : decide ((N : Int) - (off : Int) + (k : Int) < (M : Int)) = true := decide_eq_true (by omega)
              have hQM : (Q : Int) < (M : Int) := by omega
              go_wp2
              go_quiet (fail)
              go_wp2
              go_roundw
              case rel => exact ⟨k + 1, by go_num, by omega, Below.drewN hb _⟩
              case measure => simp [intOf]; omega
            · have d2 : decide ((N : Int) - (off : Int) + (k : Int) < (M : Int)) = false := decide_eq_false (by omega)
              go_wp2
              go_quiet (fail)
              go_wp2
              go_roundw
              case rel => exact ⟨k + 1, by go_num, by omega, Below.drewN hb _⟩
              case measure => simp [intOf]; omega
          · have d1 : decide ((N : Int) ≤ (k : Int)) = false := decide_eq_false (by omega)
            by_cases h2 : N - off + k < M
            · obtain ⟨ad3, rfl, c3⟩ := C3.out h2
              have d2 : decide ((N : Int) - (off : Int) + (k : Int) < (M : Int)) = true := decide_eq_true (by omega)
              have hQM : (Q : Int) < (M : Int) := by omega
              go_wp2
              go_quiet (fail)
              go_wp2
              go_roundw
              case rel => exact ⟨k + 1, by go_num, by omega, Below.drewN hb _⟩
              case measure => simp [intOf]; omega
            · have d2 : decide ((N : Int) - (off : Int) + (k : Int) < (M : Int)) = false := decide_eq_false (by omega)
              go_wp2
              go_quiet (fail)
              go_wp2
              go_roundw
              case rel => exact ⟨k + 1, by go_num, by omega, Below.drewN hb _⟩
              case measure => simp [intOf]; omega
        · obtain ⟨c0, c1⟩ := two_at HTU.out hb
          go_wp2_with fail
          refine (HPV.out _).mono ?_
          rintro e q6 ⟨rfl, k6⟩
          have hb6 := below_next hb k6
          clear c0 c1
          obtain ⟨c0, c1⟩ := two_at HTU.out hb6
          have e1 : ((N : Int) == (l.length : Int) * (mm : Int)) = true := beq_iff_eq.2 hNI.symm
          go_wp2
          go_ret
          exact ⟨rfl, HBU.out.trans (hb6.mono hwU2)⟩
end Go.Proofs.Ytholipfekecloaa.fnPilot
