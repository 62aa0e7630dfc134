/- The walk of the law FnTrackPath: each offset of a path is the step of the one before, and a path from any of its offsets is its rest. -/
import Derived.Test.YtmecbiphejjkmaaDrawF
import Derived.Test.YtmecbiphejjkmaaSsC
import Derived.Test.YtmecbiphejjkmaaPath
import Derived.Test.YtmecbiphejjkmaaSsI
import Derived.Deep.QuietTactic
import Derived.BigQuiet
namespace Go.Proofs.Ytmecbiphejjkmaa.fnTrackPath
set_option maxRecDepth 20000
open Go.ChangeShapes Go.WideShapes Go.ChangeAt Go.RowKit
set_option linter.unusedVariables false
set_option linter.unusedSimpArgs false

theorem relB {P : Program} {f : FuncId} {args : Array Value} {W0 u : World} {v : Value} (hu : Below W0.heap.size W0 u) (h : Calls P f args u fun e u' => e = .returned v ∧ Below u.heap.size u u') :
    Calls P f args u fun e u' => e = .returned v ∧ Below W0.heap.size W0 u' := h.mono fun e u' ⟨a, b⟩ => ⟨a, below_next hu b⟩
theorem two_at {W u : World} {b : Nat} {x y : Value} (h : Two W b x y) (hb : Below W.heap.size W u) : u.cell? ⟨b, 0, none⟩ = some x ∧ u.cell? ⟨b, 1, none⟩ = some y := by
  have := h.below hb
  exact ⟨this.1, this.2.1⟩
theorem trkIt_add (z : List Int) (l : List UInt8) (m off a : Nat) : ∀ b, trkIt z l m (trkIt z l m off a) b = trkIt z l m off (a + b)
  | 0 => rfl
  | b + 1 => by rw [← Nat.add_assoc]; show trkN z l m (trkIt z l m (trkIt z l m off a) b) = trkN z l m (trkIt z l m off (a + b)); rw [trkIt_add z l m off a b]
theorem dist_step {z : List Int} {s : ByteArray} {m off L : Nat} (hL : L = s.size * m) (hp : pilotOK s.data.toList (m : Int) = true) (ho : off < L) : offDist s (m : Int) (trkN z s.data.toList m off : Int) (off : Int) ≤ 1 := by
  have h1 : offOK s (m : Int) (off : Int) = true := off_ok hp (by omega)
  have h2 : offOK s (m : Int) (trkN z s.data.toList m off : Int) = true := off_ok hp (by rw [← data_length]; exact trkN_lt (by rw [data_length]; omega))
  rw [dist_yes h2 h1]
  have e : (s.size : Int) * (m : Int) = (L : Int) := by rw [hL]; simp
  rw [e]
  have hu : upTo L off 1 = if off + 1 < L then off + 1 else 0 := by
    unfold upTo
    split
    · rename_i h; exact Nat.mod_eq_of_lt h
    · have : off + 1 = L := by omega
      rw [this, Nat.mod_self]
  have hd : downTo L off 1 = if 1 ≤ off then off - 1 else L - 1 := by
    unfold downTo
    split
    · rw [show off + (L - 1) = off - 1 + L by omega, Nat.add_mod_right, Nat.mod_eq_of_lt (by omega)]
    · rw [show off + (L - 1) = L - 1 by omega, Nat.mod_eq_of_lt (by omega)]
  rcases step_ways z s m off L hL with ⟨_, h⟩ | ⟨_, h⟩ | ⟨_, h⟩
  · rw [h, hu]; split <;> omega
  · rw [h, hd]; split <;> omega
  · rw [h]; omega
theorem retB {P : Program} {f : FuncId} {args : Array Value} {W0 u : World} {l : List Int} (hu : Below W0.heap.size W0 u) (h : Calls P f args u (RetL l u)) :
    Calls P f args u fun e u' => ∃ v, e = .returned v ∧ Sl u' u.heap.size u'.heap.size v l ∧ Below W0.heap.size W0 u' := h.mono fun e u' ⟨v, a, s, b⟩ => ⟨v, a, s, below_next hu b⟩

set_option maxHeartbeats 16000000 in
theorem walk (a0 : Option Addr) (len0 cap0 : Nat) (z0 : List Int) (a1 : Option Addr) (len1 cap1 : Nat) (z1 : List Int) (w : World) (hw0 : IsRow .u8 w a0 len0 cap0 z0) (hw1 : IsRow .u8 w a1 len1 cap1 z1) :
    Calls Try.prog 6 #[.slice a0 len0 cap0, .slice a1 len1 cap1] w fun e w' => e = .returned (.bool true) ∧ Below w.heap.size w w' := by
  by_cases hlen : len0 ≤ 1048576
  rotate_left
  · go_enter Try.func6, Try.ntmps6
    go_wp2
    go_ret
    exact ⟨rfl, Below.refl _ _⟩
  by_cases hlen1 : len1 ≤ 1048576
  rotate_left
  · go_enter Try.func6, Try.ntmps6
    go_wp2
    go_ret
    exact ⟨rfl, Below.refl _ _⟩
  go_enter Try.func6, Try.ntmps6
  go_wp2_with fail
  refine (drawTrackPath_any _ _ _ _ _ hw0).mono ?_
  rintro e w1 ⟨v, z, l, m, x, p, rfl, ⟨⟨hl, hm1, hm9⟩, hsl, hzl⟩, hb1⟩
  clear hw0
  obtain ⟨A, c, rfl, hr, hzc⟩ := hsl.reads
  have zl := str_size l
  have hm : (str l).size ≤ maxLen := by unfold maxLen; omega
  obtain ⟨W, hW⟩ : ∃ W, W = w1.alloc (.cells #[.string (str l), .int .i64 m] 25) := ⟨_, rfl⟩
  have HT : Hid (∀ u : World, Below W.heap.size W u → u.cell? ⟨w1.heap.size, 0, none⟩ = some (.string (str l)) ∧ u.cell? ⟨w1.heap.size, 1, none⟩ = some (.int .i64 m)) := fun u hu => two_at (by rw [hW]; exact Two.box _ _ _) hu
  have HBW : Hid (Below w.heap.size w W) := by rw [hW]; exact hb1.alloc hb1.size _
  have hW0 : w.heap.size ≤ W.heap.size := HBW.out.size
  have HR : Hid (∀ u : World, Below W.heap.size W u → Reads u u.heap.size A z) := fun u hu => by rw [hW] at hu; exact reads_up hr hu
  have hz6 : z.length ≤ 1048576 := by omega
  have hwW : w1.heap.size < W.heap.size := by rw [hW]; simp
  go_wp2_with fail
  rw [← hW]
  have hb := Below.refl W.heap.size W
  obtain ⟨c0, c1⟩ := HT.out _ hb
  clear hW hsl hr hb1
  have HTP : Hid (∀ (x p : Int) (u : World), Below W.heap.size W u → Calls Try.prog 25 #[.slice A z.length c, .agg #[.string (str l), .int .i64 m], .int .i64 x, .int .i64 p] u (RetL (pathL z (str l) m x p) u)) := fun x p u hu => pathI_any A c z (str l) m x p u (HR.out u hu) hz6 hm
  have HTS : Hid (∀ u : World, Below W.heap.size W u → Calls Try.prog 27 #[.slice A z.length c, .agg #[.string (str l), .int .i64 m], .int .i64 x, .int .i64 p] u (RetL (pathL z (str l) m x p) u)) := fun u hu => pathS_any A c z (str l) m x p u (HR.out u hu) hz6 hm
  obtain ⟨F, hF⟩ : ∃ F, F = pathL z (str l) m x p := ⟨_, rfl⟩
  have hFb : F.length ≤ 1048576 := by rw [hF]; have := pathL_len z (str l) m x p; omega
  have HFE := Lib.hid hF
  have HT1 := HTP.out x p
  rw [← hF] at HTS HT1
  have HT1 := Lib.hid HT1
  clear hw1 hF
  go_wp2_with fail
  refine (HT1.out _ hb).mono ?_
  rintro e U1 ⟨v9, rfl, hs9, k9⟩
  have hb9 := below_next hb k9
  have HS9 := Lib.hid hs9
  clear hb hs9 k9 c0 c1
  obtain ⟨c0, c1⟩ := HT.out _ hb9
  go_wp2_with fail
  refine (HTS.out _ hb9).mono ?_
  rintro e U2 ⟨v8, rfl, hs8, k8⟩
  have hb8 := below_next hb9 k8
  have HS92 := Lib.hid (HS9.out.below k8 (Nat.le_refl _))
  have hU12 := k8.size
  have HEQ := Lib.hid (ssIntsS_any HS92.out hs8 hU12 (Nat.le_refl _) hFb)
  clear hb9 hs8 k8 c0 c1
  go_wp2_with fail
  refine HEQ.out.mono ?_
  rintro e U3 ⟨rfl, k7⟩
  have hb7 := below_next hb8 k7
  have HS93 := Lib.hid (HS92.out.below k7 hU12)
  have hU23 := k7.size
  obtain ⟨A9, p9, rfl, hr9, hcp9⟩ := HS93.out.reads
  have HR9 := Lib.hid hr9
  clear hb8 k7 HS92 HS9 HEQ hr9
  cases hv : (sigOK z && offOK (str l) m x && inB p 0 200) with
  | false =>
    have hF0 : F.length = 0 := by rw [HFE.out]; unfold pathL; rw [hv]; rfl
    rw [hF0]
    rw [hF0] at HS93
    have HS93 := HS93
    obtain ⟨c0, c1⟩ := HT.out _ hb7
    go_wp2_with fail
    refine (HTS.out _ hb7).mono ?_
    rintro e U4 ⟨v6, rfl, hs6, k6⟩
    have hb6 := below_next hb7 k6
    have HEQ := Lib.hid (ssIntsS_any (HS93.out.below k6 (Nat.le_trans hU12 hU23)) hs6 (Nat.le_trans (Nat.le_trans hU12 hU23) k6.size) (Nat.le_refl _) hFb)
    clear hb7 hs6 k6 c0 c1
    go_wp2_with fail
    refine HEQ.out.mono ?_
    rintro e U5 ⟨rfl, k5⟩
    have hb5 := below_next hb6 k5
    go_wp2
    go_ret
    exact ⟨rfl, HBW.out.trans (hb5.mono hW0)⟩
  | true =>
    simp only [Bool.and_eq_true] at hv
    obtain ⟨⟨hz, ho⟩, hpp⟩ := hv
    obtain ⟨mm, off, rfl, rfl, hp, h0, h1, h2, h3, h4, h5⟩ := off_nat ho
    have hpb : 0 ≤ p ∧ p ≤ 200 := by unfold inB at hpp; simp only [Bool.and_eq_true, decide_eq_true_eq] at hpp; omega
    obtain ⟨P, rfl⟩ : ∃ P : Nat, p = (P : Int) := ⟨p.toNat, by omega⟩
    obtain ⟨L, hLe⟩ : ∃ L, L = (str l).size * mm := ⟨_, rfl⟩
    obtain ⟨N, hN⟩ : ∃ N, N = P + 1 := ⟨_, rfl⟩
    have hF2 : F = (List.range N).map fun k => (trkIt z (str l).data.toList mm off k : Int) := by rw [HFE.out, pathL_yes hz ho hpp, hN]
    have hFl : F.length = N := by rw [hF2]; simp
    have HFV : Hid (∀ k, k < N → F.getD k 0 = (trkIt z (str l).data.toList mm off k : Int)) := fun k hk => by rw [hF2]; simp [List.getD_eq_getElem?_getD, hk]
    have HLT : Hid (∀ k, trkIt z (str l).data.toList mm off k < L) := fun k => by have := trkIt_lt (z := z) (l := (str l).data.toList) (m := mm) (off := off) (by rw [data_length]; omega) k; rw [data_length] at this; omega
    have HTK : Hid (∀ (k : Nat) (u : World), Below W.heap.size W u → Calls Try.prog 28 #[.slice A z.length c, .agg #[.string (str l), .int .i64 (mm : Int)], .int .i64 (trkIt z (str l).data.toList mm off k : Int)] u fun e w' => e = .returned (.int .i64 (trkIt z (str l).data.toList mm off (k + 1) : Int)) ∧ Below u.heap.size u w') := fun k u hu => by
      have := trackI_any A c z (str l) (mm : Int) (trkIt z (str l).data.toList mm off k : Int) u (HR.out u hu) hz6 hm
      rw [trackI_yes hz (off_ok hp (by rw [← hLe]; exact HLT.out k))] at this
      exact this
    have HOD : Hid (∀ (k : Nat), ∃ D : Int, D ≤ 1 ∧ ∀ (u : World), Calls Try.prog 29 #[.agg #[.string (str l), .int .i64 (mm : Int)], .int .i64 (trkIt z (str l).data.toList mm off (k + 1) : Int), .int .i64 (trkIt z (str l).data.toList mm off k : Int)] u fun e w' => e = .returned (.int .i64 D) ∧ Below u.heap.size u w') := fun k =>
      ⟨_, dist_step (z := z) hLe hp (HLT.out k), fun u => distI_any (str l) (mm : Int) _ _ u hm⟩
    have HRT : Hid (∀ k, k ≤ P → pathL z (str l) (mm : Int) (trkIt z (str l).data.toList mm off k : Int) ((P - k : Nat) : Int) = F.drop k) := fun k hk => by
      rw [pathL_yes hz (off_ok hp (by rw [← hLe]; exact HLT.out k)) (inB_yes (by omega) (by omega)), hF2, hN]
      apply List.ext_getElem
      · simp; omega
      · intro i hi1 hi2
        simp [trkIt_add]
    rw [hFl] at HS93 ⊢
    have hNP := hN
    have HNP := Lib.hid hNP
    have hLb : L ≤ 2040 := by omega
    have hcp9' : N ≤ p9 := by rw [← hFl]; exact hcp9
    obtain ⟨ad, rfl, hadb, hcell⟩ := HR9.out (by omega)
    have HCL : Hid (∀ (k : Nat) (u : World), k < N → Below U3.heap.size U3 u → u.cell? (ad.add k) = some (.int .i64 (trkIt z (str l).data.toList mm off k : Int))) := fun k u hk hu => by
      rw [hu.cell (by rw [add_block]; omega), hcell k (by omega), HFV.out k hk]
    have HTU : Hid (∀ u : World, Below U3.heap.size U3 u → u.cell? ⟨w1.heap.size, 0, none⟩ = some (.string (str l)) ∧ u.cell? ⟨w1.heap.size, 1, none⟩ = some (.int .i64 (mm : Int))) := fun u hu => HT.out u (below_next hb7 hu)
    have HUB := Lib.hid hb7
    have HBU := Lib.hid (HBW.out.trans (hb7.mono hW0))
    have hwU : w.heap.size ≤ U3.heap.size := HBU.out.size
    have HCP := Lib.hid hcp9'
    have HFL := Lib.hid hFl
    have HF0 : Hid (trkIt z (str l).data.toList mm off 0 = off) := rfl
    have hb := Below.refl U3.heap.size U3
    have hN1 : 1 ≤ N := by omega
    have hN2 : N ≤ 201 := by omega
    have hN0b : ((N : Int) == 0) = false := by simp; omega
    have hPN : (P : Int) + 1 = (N : Int) := by omega
    clear hcell hN hNP hF2 hFl hp ho hz hpp h0 h5 hLe hb7 HS93 HT HTS HT1 hcp9 hcp9' hwW
    generalize htr : trkIt z (str l).data.toList mm off = tr at *
    go_wp2
    go_loopw [10] (fun i wr => ∃ k : Nat, i = .int .i64 (k : Int) ∧ 1 ≤ k ∧ k ≤ N ∧ Below U3.heap.size U3 wr) (fun i _ => N - (intOf i).toNat)
    case atStart => exact ⟨1, rfl, Nat.le_refl _, hN1, hb⟩
    case round =>
      clear hb
      obtain ⟨k, rfl, hk1, hk, hb⟩ := hrel
      by_cases hlt : k < N
      · obtain ⟨R, hRe, hRk⟩ : ∃ R : Nat, (k : Int) - 1 = (R : Int) ∧ k = R + 1 := ⟨k - 1, by omega, by omega⟩
        have HC1 : Hid (∀ u : World, Below U3.heap.size U3 u → u.cell? (ad.add k) = some (.int .i64 (tr (R + 1) : Int))) := fun u hu => by rw [← hRk]; exact HCL.out k u hlt hu
        have HC2 : Hid (∀ u : World, Below U3.heap.size U3 u → u.cell? (ad.add R) = some (.int .i64 (tr R : Int))) := fun u hu => HCL.out R u (by omega) hu
        have hRN : (R : Int) < (N : Int) := by omega
        have hRw : IntKind.i64.wrap (R : Int) = (R : Int) := IntWalk.i64_in _ (by omega)
        have HK := Lib.hid (HTK.out R)
        obtain ⟨D, hD, hDC⟩ := HOD.out R
        have HD := Lib.hid hDC
        have HRK := Lib.hid hRk
        have t1 := HLT.out R
        have t2 := HLT.out (R + 1)
        have d1 : decide (1 < D) = false := decide_eq_false (by omega)
        obtain ⟨T1, hT1⟩ : ∃ T, T = tr R := ⟨_, rfl⟩
        obtain ⟨T2, hT2⟩ : ∃ T, T = tr (R + 1) := ⟨_, rfl⟩
        rw [← hT1] at HC2 HK HD t1
        rw [← hT2] at HC1 HK HD t2
        clear hDC hRk hT1 hT2
        go_wp2
        refine wp_region_held_drew (S := (fun u => (u.cell? ⟨w1.heap.size, 0, none⟩ = some (.string (str l)) ∧ u.cell? ⟨w1.heap.size, 1, none⟩ = some (.int .i64 (mm : Int))) ∧ u.cell? (ad.add k) = some (.int .i64 (T2 : Int)) ∧ u.cell? (ad.add R) = some (.int .i64 (T1 : Int)))) (by kernel_rfl) ?_ (fun hHeld => ?_)
        · (try dsimp only)
          exact ⟨HTU.out _ (by first | assumption | exact Below.drew (by assumption)), HC1.out _ (by first | assumption | exact Below.drew (by assumption)), HC2.out _ (by first | assumption | exact Below.drew (by assumption))⟩
        first
          | (refine wpAnyH_take (i := 0) (oi := ⟨(some 59), _, _, _, _, _⟩) (v := ?_) rfl (by kernel_rfl) (by kernel_rfl) (by kernel_rfl) (fun _ _ _ h => h) (Or.inl ⟨by rfl, ?_⟩) (by assumption) ?_; rotate_left; (focus (intro ww hSw; (try dsimp only at hSw); go_simp; (try with_reducible rfl))))
          | (refine wpAnyH_take (i := 0) (oi := ⟨(some 59), _, _, _, _, _⟩) (v := undef) rfl (by kernel_rfl) (by kernel_rfl) (by kernel_rfl) (fun _ _ _ h => h) (Or.inr ⟨by rfl, rfl⟩) (by assumption) ?_)
        (try simp only [Act.put, List.setIfInBounds_toArray, List.set_cons_zero, List.set_cons_succ])
        first
          | (refine wpAnyH_take (i := 1) (oi := ⟨(some 60), _, _, _, _, _⟩) (v := ?_) rfl (by kernel_rfl) (by kernel_rfl) (by kernel_rfl) (fun _ _ _ h => h) (Or.inl ⟨by rfl, ?_⟩) (by assumption) ?_; rotate_left; (focus (intro ww hSw; (try dsimp only at hSw); go_simp; (try with_reducible rfl))))
          | (refine wpAnyH_take (i := 1) (oi := ⟨(some 60), _, _, _, _, _⟩) (v := undef) rfl (by kernel_rfl) (by kernel_rfl) (by kernel_rfl) (fun _ _ _ h => h) (Or.inr ⟨by rfl, rfl⟩) (by assumption) ?_)
        (try simp only [Act.put, List.setIfInBounds_toArray, List.set_cons_zero, List.set_cons_succ])
        first
          | (refine wpAnyH_take (i := 2) (oi := ⟨(some 61), _, _, _, _, _⟩) (v := ?_) rfl (by kernel_rfl) (by kernel_rfl) (by kernel_rfl) (fun _ _ _ h => h) (Or.inl ⟨by rfl, ?_⟩) (by assumption) ?_; rotate_left; (focus (intro ww hSw; (try dsimp only at hSw); go_simp; (try with_reducible rfl))))
          | (refine wpAnyH_take (i := 2) (oi := ⟨(some 61), _, _, _, _, _⟩) (v := undef) rfl (by kernel_rfl) (by kernel_rfl) (by kernel_rfl) (fun _ _ _ h => h) (Or.inr ⟨by rfl, rfl⟩) (by assumption) ?_)
        (try simp only [Act.put, List.setIfInBounds_toArray, List.set_cons_zero, List.set_cons_succ])
        first
          | (refine wpAnyH_take (i := 3) (oi := ⟨(some 62), _, _, _, _, _⟩) (v := ?_) rfl (by kernel_rfl) (by kernel_rfl) (by kernel_rfl) (fun _ _ _ h => h) (Or.inl ⟨by rfl, ?_⟩) (by assumption) ?_; rotate_left; (focus (intro ww hSw; (try dsimp only at hSw); go_simp; (try with_reducible rfl))))
          | (refine wpAnyH_take (i := 3) (oi := ⟨(some 62), _, _, _, _, _⟩) (v := undef) rfl (by kernel_rfl) (by kernel_rfl) (by kernel_rfl) (fun _ _ _ h => h) (Or.inr ⟨by rfl, rfl⟩) (by assumption) ?_)
        (try simp only [Act.put, List.setIfInBounds_toArray, List.set_cons_zero, List.set_cons_succ])
        first
          | (refine wpAnyH_take (i := 4) (oi := ⟨(some 63), _, _, _, _, _⟩) (v := ?_) rfl (by kernel_rfl) (by kernel_rfl) (by kernel_rfl) (fun _ _ _ h => h) (Or.inl ⟨by rfl, ?_⟩) (by assumption) ?_; rotate_left; (focus (intro ww hSw; (try dsimp only at hSw); go_simp; (try with_reducible rfl))))
          | (refine wpAnyH_take (i := 4) (oi := ⟨(some 63), _, _, _, _, _⟩) (v := undef) rfl (by kernel_rfl) (by kernel_rfl) (by kernel_rfl) (fun _ _ _ h => h) (Or.inr ⟨by rfl, rfl⟩) (by assumption) ?_)
        (try simp only [Act.put, List.setIfInBounds_toArray, List.set_cons_zero, List.set_cons_succ])
        first
          | (refine wpAnyH_take (i := 5) (oi := ⟨(some 64), _, _, _, _, _⟩) (v := ?_) rfl (by kernel_rfl) (by kernel_rfl) (by kernel_rfl) (fun _ _ _ h => h) (Or.inl ⟨by rfl, ?_⟩) (by assumption) ?_; rotate_left; (focus (intro ww hSw; (try dsimp only at hSw); go_simp; (try with_reducible rfl))))
          | (refine wpAnyH_take (i := 5) (oi := ⟨(some 64), _, _, _, _, _⟩) (v := undef) rfl (by kernel_rfl) (by kernel_rfl) (by kernel_rfl) (fun _ _ _ h => h) (Or.inr ⟨by rfl, rfl⟩) (by assumption) ?_)
        (try simp only [Act.put, List.setIfInBounds_toArray, List.set_cons_zero, List.set_cons_succ])
        first
          | (refine wpAnyH_take (i := 6) (oi := ⟨(some 65), _, _, _, _, _⟩) (v := ?_) rfl (by kernel_rfl) (by kernel_rfl) (by kernel_rfl) (fun _ _ _ h => h) (Or.inl ⟨by rfl, ?_⟩) (by assumption) ?_; rotate_left; (focus (intro ww hSw; (try dsimp only at hSw); go_simp; (try with_reducible rfl))))
          | (refine wpAnyH_take (i := 6) (oi := ⟨(some 65), _, _, _, _, _⟩) (v := undef) rfl (by kernel_rfl) (by kernel_rfl) (by kernel_rfl) (fun _ _ _ h => h) (Or.inr ⟨by rfl, rfl⟩) (by assumption) ?_)
        (try simp only [Act.put, List.setIfInBounds_toArray, List.set_cons_zero, List.set_cons_succ])
        first
          | (refine wpAnyH_take (i := 7) (oi := ⟨(some 66), _, _, _, _, _⟩) (v := ?_) rfl (by kernel_rfl) (by kernel_rfl) (by kernel_rfl) (fun _ _ _ h => h) (Or.inl ⟨by rfl, ?_⟩) (by assumption) ?_; rotate_left; (focus (intro ww hSw; (try dsimp only at hSw); go_simp; (try with_reducible rfl))))
          | (refine wpAnyH_take (i := 7) (oi := ⟨(some 66), _, _, _, _, _⟩) (v := undef) rfl (by kernel_rfl) (by kernel_rfl) (by kernel_rfl) (fun _ _ _ h => h) (Or.inr ⟨by rfl, rfl⟩) (by assumption) ?_)
        (try simp only [Act.put, List.setIfInBounds_toArray, List.set_cons_zero, List.set_cons_succ])
        first
          | (refine wpAnyH_take (i := 8) (oi := ⟨(some 67), _, _, _, _, _⟩) (v := ?_) rfl (by kernel_rfl) (by kernel_rfl) (by kernel_rfl) (fun _ _ _ h => h) (Or.inl ⟨by rfl, ?_⟩) (by assumption) ?_; rotate_left; (focus (intro ww hSw; (try dsimp only at hSw); go_simp; (try with_reducible rfl))))
          | (refine wpAnyH_take (i := 8) (oi := ⟨(some 67), _, _, _, _, _⟩) (v := undef) rfl (by kernel_rfl) (by kernel_rfl) (by kernel_rfl) (fun _ _ _ h => h) (Or.inr ⟨by rfl, rfl⟩) (by assumption) ?_)
        (try simp only [Act.put, List.setIfInBounds_toArray, List.set_cons_zero, List.set_cons_succ])
        first
          | (refine wpAnyH_take (i := 9) (oi := ⟨(some 68), _, _, _, _, _⟩) (v := ?_) rfl (by kernel_rfl) (by kernel_rfl) (by kernel_rfl) (fun _ _ _ h => h) (Or.inl ⟨by rfl, ?_⟩) (by assumption) ?_; rotate_left; (focus (intro ww hSw; (try dsimp only at hSw); go_simp; (try with_reducible rfl))))
          | (refine wpAnyH_take (i := 9) (oi := ⟨(some 68), _, _, _, _, _⟩) (v := undef) rfl (by kernel_rfl) (by kernel_rfl) (by kernel_rfl) (fun _ _ _ h => h) (Or.inr ⟨by rfl, rfl⟩) (by assumption) ?_)
        (try simp only [Act.put, List.setIfInBounds_toArray, List.set_cons_zero, List.set_cons_succ])
        first
          | (refine wpAnyH_take (i := 10) (oi := ⟨(some 69), _, _, _, _, _⟩) (v := ?_) rfl (by kernel_rfl) (by kernel_rfl) (by kernel_rfl) (fun _ _ _ h => h) (Or.inl ⟨by rfl, ?_⟩) (by assumption) ?_; rotate_left; (focus (intro ww hSw; (try dsimp only at hSw); go_simp; (try with_reducible rfl))))
          | (refine wpAnyH_take (i := 10) (oi := ⟨(some 69), _, _, _, _, _⟩) (v := undef) rfl (by kernel_rfl) (by kernel_rfl) (by kernel_rfl) (fun _ _ _ h => h) (Or.inr ⟨by rfl, rfl⟩) (by assumption) ?_)
        (try simp only [Act.put, List.setIfInBounds_toArray, List.set_cons_zero, List.set_cons_succ])
        refine wpAnyH_ready (rs := [11]) (by kernel_rfl) (by simp) ?_
        refine AllReadyH.cons (o := ⟨(some 70), _, _, _, _, _⟩) rfl (fun K hK => ?_) AllReadyH.nil
        go_simp
        refine (relB (W0 := U3) (by first | assumption | exact Below.drew (by assumption)) (HK.out _ (below_next HUB.out (by first | assumption | exact Below.drew (by assumption))))).mono ?_
        rintro e q1 ⟨rfl, hq1⟩
        clear hb
        go_wp2_with fail
        refine hK.out _ _ ?_ (fun hHeld => ?_)
        · (try dsimp only)
          exact ⟨HTU.out _ (by first | assumption | exact Below.drew (by assumption)), HC1.out _ (by first | assumption | exact Below.drew (by assumption)), HC2.out _ (by first | assumption | exact Below.drew (by assumption))⟩
        clear hK K
        (try simp only [Act.put, List.setIfInBounds_toArray, List.set_cons_zero, List.set_cons_succ])
        first
          | (refine wpAnyH_take (i := 12) (oi := ⟨(some 71), _, _, _, _, _⟩) (v := ?_) rfl (by kernel_rfl) (by kernel_rfl) (by kernel_rfl) (fun _ _ _ h => h) (Or.inl ⟨by rfl, ?_⟩) (by assumption) ?_; rotate_left; (focus (intro ww hSw; (try dsimp only at hSw); go_simp; (try with_reducible rfl))))
          | (refine wpAnyH_take (i := 12) (oi := ⟨(some 71), _, _, _, _, _⟩) (v := undef) rfl (by kernel_rfl) (by kernel_rfl) (by kernel_rfl) (fun _ _ _ h => h) (Or.inr ⟨by rfl, rfl⟩) (by assumption) ?_)
        (try simp only [Act.put, List.setIfInBounds_toArray, List.set_cons_zero, List.set_cons_succ])
        first
          | (refine wpAnyH_take (i := 13) (oi := ⟨(some 72), _, _, _, _, _⟩) (v := ?_) rfl (by kernel_rfl) (by kernel_rfl) (by kernel_rfl) (fun _ _ _ h => h) (Or.inl ⟨by rfl, ?_⟩) (by assumption) ?_; rotate_left; (focus (intro ww hSw; (try dsimp only at hSw); go_simp; (try with_reducible rfl))))
          | (refine wpAnyH_take (i := 13) (oi := ⟨(some 72), _, _, _, _, _⟩) (v := undef) rfl (by kernel_rfl) (by kernel_rfl) (by kernel_rfl) (fun _ _ _ h => h) (Or.inr ⟨by rfl, rfl⟩) (by assumption) ?_)
        (try simp only [Act.put, List.setIfInBounds_toArray, List.set_cons_zero, List.set_cons_succ])
        first
          | (refine wpAnyH_take (i := 14) (oi := ⟨(some 73), _, _, _, _, _⟩) (v := ?_) rfl (by kernel_rfl) (by kernel_rfl) (by kernel_rfl) (fun _ _ _ h => h) (Or.inl ⟨by rfl, ?_⟩) (by assumption) ?_; rotate_left; (focus (intro ww hSw; (try dsimp only at hSw); go_simp; (try with_reducible rfl))))
          | (refine wpAnyH_take (i := 14) (oi := ⟨(some 73), _, _, _, _, _⟩) (v := undef) rfl (by kernel_rfl) (by kernel_rfl) (by kernel_rfl) (fun _ _ _ h => h) (Or.inr ⟨by rfl, rfl⟩) (by assumption) ?_)
        (try simp only [Act.put, List.setIfInBounds_toArray, List.set_cons_zero, List.set_cons_succ])
        first
          | (refine wpAnyH_take (i := 15) (oi := ⟨(some 74), _, _, _, _, _⟩) (v := ?_) rfl (by kernel_rfl) (by kernel_rfl) (by kernel_rfl) (fun _ _ _ h => h) (Or.inl ⟨by rfl, ?_⟩) (by assumption) ?_; rotate_left; (focus (intro ww hSw; (try dsimp only at hSw); go_simp; (try with_reducible rfl))))
          | (refine wpAnyH_take (i := 15) (oi := ⟨(some 74), _, _, _, _, _⟩) (v := undef) rfl (by kernel_rfl) (by kernel_rfl) (by kernel_rfl) (fun _ _ _ h => h) (Or.inr ⟨by rfl, rfl⟩) (by assumption) ?_)
        (try simp only [Act.put, List.setIfInBounds_toArray, List.set_cons_zero, List.set_cons_succ])
        first
          | (refine wpAnyH_take (i := 16) (oi := ⟨(some 75), _, _, _, _, _⟩) (v := ?_) rfl (by kernel_rfl) (by kernel_rfl) (by kernel_rfl) (fun _ _ _ h => h) (Or.inl ⟨by rfl, ?_⟩) (by assumption) ?_; rotate_left; (focus (intro ww hSw; (try dsimp only at hSw); go_simp; (try with_reducible rfl))))
          | (refine wpAnyH_take (i := 16) (oi := ⟨(some 75), _, _, _, _, _⟩) (v := undef) rfl (by kernel_rfl) (by kernel_rfl) (by kernel_rfl) (fun _ _ _ h => h) (Or.inr ⟨by rfl, rfl⟩) (by assumption) ?_)
        (try simp only [Act.put, List.setIfInBounds_toArray, List.set_cons_zero, List.set_cons_succ])
        first
          | (refine wpAnyH_take (i := 17) (oi := ⟨(some 76), _, _, _, _, _⟩) (v := ?_) rfl (by kernel_rfl) (by kernel_rfl) (by kernel_rfl) (fun _ _ _ h => h) (Or.inl ⟨by rfl, ?_⟩) (by assumption) ?_; rotate_left; (focus (intro ww hSw; (try dsimp only at hSw); go_simp; (try with_reducible rfl))))
          | (refine wpAnyH_take (i := 17) (oi := ⟨(some 76), _, _, _, _, _⟩) (v := undef) rfl (by kernel_rfl) (by kernel_rfl) (by kernel_rfl) (fun _ _ _ h => h) (Or.inr ⟨by rfl, rfl⟩) (by assumption) ?_)
        (try simp only [Act.put, List.setIfInBounds_toArray, List.set_cons_zero, List.set_cons_succ])
        first
          | (refine wpAnyH_take (i := 18) (oi := ⟨(some 77), _, _, _, _, _⟩) (v := ?_) rfl (by kernel_rfl) (by kernel_rfl) (by kernel_rfl) (fun _ _ _ h => h) (Or.inl ⟨by rfl, ?_⟩) (by assumption) ?_; rotate_left; (focus (intro ww hSw; (try dsimp only at hSw); go_simp; (try with_reducible rfl))))
          | (refine wpAnyH_take (i := 18) (oi := ⟨(some 77), _, _, _, _, _⟩) (v := undef) rfl (by kernel_rfl) (by kernel_rfl) (by kernel_rfl) (fun _ _ _ h => h) (Or.inr ⟨by rfl, rfl⟩) (by assumption) ?_)
        (try simp only [Act.put, List.setIfInBounds_toArray, List.set_cons_zero, List.set_cons_succ])
        first
          | (refine wpAnyH_take (i := 19) (oi := ⟨(some 78), _, _, _, _, _⟩) (v := ?_) rfl (by kernel_rfl) (by kernel_rfl) (by kernel_rfl) (fun _ _ _ h => h) (Or.inl ⟨by rfl, ?_⟩) (by assumption) ?_; rotate_left; (focus (intro ww hSw; (try dsimp only at hSw); go_simp; (try with_reducible rfl))))
          | (refine wpAnyH_take (i := 19) (oi := ⟨(some 78), _, _, _, _, _⟩) (v := undef) rfl (by kernel_rfl) (by kernel_rfl) (by kernel_rfl) (fun _ _ _ h => h) (Or.inr ⟨by rfl, rfl⟩) (by assumption) ?_)
        (try simp only [Act.put, List.setIfInBounds_toArray, List.set_cons_zero, List.set_cons_succ])
        first
          | (refine wpAnyH_take (i := 20) (oi := ⟨(some 79), _, _, _, _, _⟩) (v := ?_) rfl (by kernel_rfl) (by kernel_rfl) (by kernel_rfl) (fun _ _ _ h => h) (Or.inl ⟨by rfl, ?_⟩) (by assumption) ?_; rotate_left; (focus (intro ww hSw; (try dsimp only at hSw); go_simp; (try with_reducible rfl))))
          | (refine wpAnyH_take (i := 20) (oi := ⟨(some 79), _, _, _, _, _⟩) (v := undef) rfl (by kernel_rfl) (by kernel_rfl) (by kernel_rfl) (fun _ _ _ h => h) (Or.inr ⟨by rfl, rfl⟩) (by assumption) ?_)
        (try simp only [Act.put, List.setIfInBounds_toArray, List.set_cons_zero, List.set_cons_succ])
        first
          | (refine wpAnyH_take (i := 21) (oi := ⟨(some 80), _, _, _, _, _⟩) (v := ?_) rfl (by kernel_rfl) (by kernel_rfl) (by kernel_rfl) (fun _ _ _ h => h) (Or.inl ⟨by rfl, ?_⟩) (by assumption) ?_; rotate_left; (focus (intro ww hSw; (try dsimp only at hSw); go_simp; (try with_reducible rfl))))
          | (refine wpAnyH_take (i := 21) (oi := ⟨(some 80), _, _, _, _, _⟩) (v := undef) rfl (by kernel_rfl) (by kernel_rfl) (by kernel_rfl) (fun _ _ _ h => h) (Or.inr ⟨by rfl, rfl⟩) (by assumption) ?_)
        (try simp only [Act.put, List.setIfInBounds_toArray, List.set_cons_zero, List.set_cons_succ])
        first
          | (refine wpAnyH_take (i := 22) (oi := ⟨(some 81), _, _, _, _, _⟩) (v := ?_) rfl (by kernel_rfl) (by kernel_rfl) (by kernel_rfl) (fun _ _ _ h => h) (Or.inl ⟨by rfl, ?_⟩) (by assumption) ?_; rotate_left; (focus (intro ww hSw; (try dsimp only at hSw); go_simp; (try with_reducible rfl))))
          | (refine wpAnyH_take (i := 22) (oi := ⟨(some 81), _, _, _, _, _⟩) (v := undef) rfl (by kernel_rfl) (by kernel_rfl) (by kernel_rfl) (fun _ _ _ h => h) (Or.inr ⟨by rfl, rfl⟩) (by assumption) ?_)
        (try simp only [Act.put, List.setIfInBounds_toArray, List.set_cons_zero, List.set_cons_succ])
        first
          | (refine wpAnyH_take (i := 23) (oi := ⟨(some 82), _, _, _, _, _⟩) (v := ?_) rfl (by kernel_rfl) (by kernel_rfl) (by kernel_rfl) (fun _ _ _ h => h) (Or.inl ⟨by rfl, ?_⟩) (by assumption) ?_; rotate_left; (focus (intro ww hSw; (try dsimp only at hSw); go_simp; (try with_reducible rfl))))
          | (refine wpAnyH_take (i := 23) (oi := ⟨(some 82), _, _, _, _, _⟩) (v := undef) rfl (by kernel_rfl) (by kernel_rfl) (by kernel_rfl) (fun _ _ _ h => h) (Or.inr ⟨by rfl, rfl⟩) (by assumption) ?_)
        (try simp only [Act.put, List.setIfInBounds_toArray, List.set_cons_zero, List.set_cons_succ])
        refine wpAnyH_ready (rs := [24]) (by kernel_rfl) (by simp) ?_
        refine AllReadyH.cons (o := ⟨(some 83), _, _, _, _, _⟩) rfl (fun K hK => ?_) AllReadyH.nil
        go_simp
        refine (relB (W0 := U3) (by first | assumption | exact Below.drew (by assumption)) (HD.out _)).mono ?_
        rintro e q2 ⟨rfl, hq2⟩
        clear hq1
        go_wp2_with fail
        refine hK.out _ _ ?_ (fun hHeld => ?_)
        · (try dsimp only)
          exact ⟨HTU.out _ (by first | assumption | exact Below.drew (by assumption)), HC1.out _ (by first | assumption | exact Below.drew (by assumption)), HC2.out _ (by first | assumption | exact Below.drew (by assumption))⟩
        clear hK K
        (try simp only [Act.put, List.setIfInBounds_toArray, List.set_cons_zero, List.set_cons_succ])
        first
          | (refine wpAnyH_take (i := 25) (oi := ⟨(some 84), _, _, _, _, _⟩) (v := ?_) rfl (by kernel_rfl) (by kernel_rfl) (by kernel_rfl) (fun _ _ _ h => h) (Or.inl ⟨by rfl, ?_⟩) (by assumption) ?_; rotate_left; (focus (intro ww hSw; (try dsimp only at hSw); go_simp; (try with_reducible rfl))))
          | (refine wpAnyH_take (i := 25) (oi := ⟨(some 84), _, _, _, _, _⟩) (v := undef) rfl (by kernel_rfl) (by kernel_rfl) (by kernel_rfl) (fun _ _ _ h => h) (Or.inr ⟨by rfl, rfl⟩) (by assumption) ?_)
        (try simp only [Act.put, List.setIfInBounds_toArray, List.set_cons_zero, List.set_cons_succ])
        first
          | (refine wpAnyH_take (i := 26) (oi := ⟨(some 85), _, _, _, _, _⟩) (v := ?_) rfl (by kernel_rfl) (by kernel_rfl) (by kernel_rfl) (fun _ _ _ h => h) (Or.inl ⟨by rfl, ?_⟩) (by assumption) ?_; rotate_left; (focus (intro ww hSw; (try dsimp only at hSw); go_simp; (try with_reducible rfl))))
          | (refine wpAnyH_take (i := 26) (oi := ⟨(some 85), _, _, _, _, _⟩) (v := undef) rfl (by kernel_rfl) (by kernel_rfl) (by kernel_rfl) (fun _ _ _ h => h) (Or.inr ⟨by rfl, rfl⟩) (by assumption) ?_)
        (try simp only [Act.put, List.setIfInBounds_toArray, List.set_cons_zero, List.set_cons_succ])
        refine wpAnyH_done (by kernel_rfl) ?_ _
        go_wp2
        go_roundw
        case rel => exact ⟨k + 1, by go_num, by omega, by omega, (by first | assumption | exact Below.drew (by assumption))⟩
        case measure => simp [intOf]; omega
      · clear HTK HOD HFE
        obtain ⟨κ, hκ, hκN⟩ : ∃ κ : Nat, (len1 : Int) % (N : Int) = (κ : Int) ∧ κ < N := ⟨len1 % N, by simp, Nat.mod_lt _ hN1⟩
        have hκP : κ ≤ P := by have := HNP.out; omega
        obtain ⟨R, hRe⟩ : ∃ R : Nat, (P : Int) - (κ : Int) = (R : Int) := ⟨P - κ, by omega⟩
        have hRP : P - κ = R := by omega
        have hRw : IntKind.i64.wrap (R : Int) = (R : Int) := IntWalk.i64_in _ (by omega)
        have hN0 : ¬ N = 0 := by omega
        have HC1 : Hid (∀ u : World, Below U3.heap.size U3 u → u.cell? (ad.add κ) = some (.int .i64 (tr κ : Int))) := fun u hu => HCL.out κ u hκN hu
        have HC0 : Hid (∀ u : World, Below U3.heap.size U3 u → u.cell? (ad.add 0) = some (.int .i64 (off : Int))) := fun u hu => by rw [← HF0.out]; exact HCL.out 0 u (by omega) hu
        have HPA := HTP.out (tr κ : Int) ((P - κ : Nat) : Int)
        rw [HRT.out κ hκP, hRP] at HPA
        have HPA := Lib.hid HPA
        have t1 := HLT.out κ
        have hpk : ¬ p9 = κ := by have := HCP.out; omega
        have HRD : Hid (∀ u : World, Below U3.heap.size U3 u → Reads u u.heap.size (some (ad.add κ)) (F.drop κ)) := fun u hu => by
          have := (((HR9.out.more (Nat.le_trans hU12 hU23)).keep (fun p hp => hu.cell hp)).more hu.size).cut (k := κ) (cap := p9) (by rw [HFL.out]; omega) (by rw [HFL.out]; exact HCP.out)
          rw [if_neg hpk] at this
          exact this
        clear hRP
        obtain ⟨T1, hT1⟩ : ∃ T, T = tr κ := ⟨_, rfl⟩
        rw [← hT1] at HC1 t1 HPA
        clear hT1
        go_wp2
        refine wp_region_held_drew (S := (fun u => (u.cell? ⟨w1.heap.size, 0, none⟩ = some (.string (str l)) ∧ u.cell? ⟨w1.heap.size, 1, none⟩ = some (.int .i64 (mm : Int))) ∧ u.cell? (ad.add κ) = some (.int .i64 (T1 : Int)))) (by kernel_rfl) ?_ (fun hHeld => ?_)
        · (try dsimp only)
          exact ⟨HTU.out _ (by first | assumption | exact Below.drew (by assumption)), HC1.out _ (by first | assumption | exact Below.drew (by assumption))⟩
        first
          | (refine wpAnyH_take (i := 0) (oi := ⟨(some 91), _, _, _, _, _⟩) (v := ?_) rfl (by kernel_rfl) (by kernel_rfl) (by kernel_rfl) (fun _ _ _ h => h) (Or.inl ⟨by rfl, ?_⟩) (by assumption) ?_; rotate_left; (focus (intro ww hSw; (try dsimp only at hSw); go_simp; (try with_reducible rfl))))
          | (refine wpAnyH_take (i := 0) (oi := ⟨(some 91), _, _, _, _, _⟩) (v := undef) rfl (by kernel_rfl) (by kernel_rfl) (by kernel_rfl) (fun _ _ _ h => h) (Or.inr ⟨by rfl, rfl⟩) (by assumption) ?_)
        (try simp only [Act.put, List.setIfInBounds_toArray, List.set_cons_zero, List.set_cons_succ])
        first
          | (refine wpAnyH_take (i := 1) (oi := ⟨(some 92), _, _, _, _, _⟩) (v := ?_) rfl (by kernel_rfl) (by kernel_rfl) (by kernel_rfl) (fun _ _ _ h => h) (Or.inl ⟨by rfl, ?_⟩) (by assumption) ?_; rotate_left; (focus (intro ww hSw; (try dsimp only at hSw); go_simp; (try with_reducible rfl))))
          | (refine wpAnyH_take (i := 1) (oi := ⟨(some 92), _, _, _, _, _⟩) (v := undef) rfl (by kernel_rfl) (by kernel_rfl) (by kernel_rfl) (fun _ _ _ h => h) (Or.inr ⟨by rfl, rfl⟩) (by assumption) ?_)
        (try simp only [Act.put, List.setIfInBounds_toArray, List.set_cons_zero, List.set_cons_succ])
        first
          | (refine wpAnyH_take (i := 2) (oi := ⟨(some 93), _, _, _, _, _⟩) (v := ?_) rfl (by kernel_rfl) (by kernel_rfl) (by kernel_rfl) (fun _ _ _ h => h) (Or.inl ⟨by rfl, ?_⟩) (by assumption) ?_; rotate_left; (focus (intro ww hSw; (try dsimp only at hSw); go_simp; (try with_reducible rfl))))
          | (refine wpAnyH_take (i := 2) (oi := ⟨(some 93), _, _, _, _, _⟩) (v := undef) rfl (by kernel_rfl) (by kernel_rfl) (by kernel_rfl) (fun _ _ _ h => h) (Or.inr ⟨by rfl, rfl⟩) (by assumption) ?_)
        (try simp only [Act.put, List.setIfInBounds_toArray, List.set_cons_zero, List.set_cons_succ])
        first
          | (refine wpAnyH_take (i := 3) (oi := ⟨(some 94), _, _, _, _, _⟩) (v := ?_) rfl (by kernel_rfl) (by kernel_rfl) (by kernel_rfl) (fun _ _ _ h => h) (Or.inl ⟨by rfl, ?_⟩) (by assumption) ?_; rotate_left; (focus (intro ww hSw; (try dsimp only at hSw); go_simp; (try with_reducible rfl))))
          | (refine wpAnyH_take (i := 3) (oi := ⟨(some 94), _, _, _, _, _⟩) (v := undef) rfl (by kernel_rfl) (by kernel_rfl) (by kernel_rfl) (fun _ _ _ h => h) (Or.inr ⟨by rfl, rfl⟩) (by assumption) ?_)
        (try simp only [Act.put, List.setIfInBounds_toArray, List.set_cons_zero, List.set_cons_succ])
        first
          | (refine wpAnyH_take (i := 4) (oi := ⟨(some 95), _, _, _, _, _⟩) (v := ?_) rfl (by kernel_rfl) (by kernel_rfl) (by kernel_rfl) (fun _ _ _ h => h) (Or.inl ⟨by rfl, ?_⟩) (by assumption) ?_; rotate_left; (focus (intro ww hSw; (try dsimp only at hSw); go_simp; (try with_reducible rfl))))
          | (refine wpAnyH_take (i := 4) (oi := ⟨(some 95), _, _, _, _, _⟩) (v := undef) rfl (by kernel_rfl) (by kernel_rfl) (by kernel_rfl) (fun _ _ _ h => h) (Or.inr ⟨by rfl, rfl⟩) (by assumption) ?_)
        (try simp only [Act.put, List.setIfInBounds_toArray, List.set_cons_zero, List.set_cons_succ])
        first
          | (refine wpAnyH_take (i := 5) (oi := ⟨(some 96), _, _, _, _, _⟩) (v := ?_) rfl (by kernel_rfl) (by kernel_rfl) (by kernel_rfl) (fun _ _ _ h => h) (Or.inl ⟨by rfl, ?_⟩) (by assumption) ?_; rotate_left; (focus (intro ww hSw; (try dsimp only at hSw); go_simp; (try with_reducible rfl))))
          | (refine wpAnyH_take (i := 5) (oi := ⟨(some 96), _, _, _, _, _⟩) (v := undef) rfl (by kernel_rfl) (by kernel_rfl) (by kernel_rfl) (fun _ _ _ h => h) (Or.inr ⟨by rfl, rfl⟩) (by assumption) ?_)
        (try simp only [Act.put, List.setIfInBounds_toArray, List.set_cons_zero, List.set_cons_succ])
        first
          | (refine wpAnyH_take (i := 6) (oi := ⟨(some 97), _, _, _, _, _⟩) (v := ?_) rfl (by kernel_rfl) (by kernel_rfl) (by kernel_rfl) (fun _ _ _ h => h) (Or.inl ⟨by rfl, ?_⟩) (by assumption) ?_; rotate_left; (focus (intro ww hSw; (try dsimp only at hSw); go_simp; (try with_reducible rfl))))
          | (refine wpAnyH_take (i := 6) (oi := ⟨(some 97), _, _, _, _, _⟩) (v := undef) rfl (by kernel_rfl) (by kernel_rfl) (by kernel_rfl) (fun _ _ _ h => h) (Or.inr ⟨by rfl, rfl⟩) (by assumption) ?_)
        (try simp only [Act.put, List.setIfInBounds_toArray, List.set_cons_zero, List.set_cons_succ])
        first
          | (refine wpAnyH_take (i := 7) (oi := ⟨(some 98), _, _, _, _, _⟩) (v := ?_) rfl (by kernel_rfl) (by kernel_rfl) (by kernel_rfl) (fun _ _ _ h => h) (Or.inl ⟨by rfl, ?_⟩) (by assumption) ?_; rotate_left; (focus (intro ww hSw; (try dsimp only at hSw); go_simp; (try with_reducible rfl))))
          | (refine wpAnyH_take (i := 7) (oi := ⟨(some 98), _, _, _, _, _⟩) (v := undef) rfl (by kernel_rfl) (by kernel_rfl) (by kernel_rfl) (fun _ _ _ h => h) (Or.inr ⟨by rfl, rfl⟩) (by assumption) ?_)
        (try simp only [Act.put, List.setIfInBounds_toArray, List.set_cons_zero, List.set_cons_succ])
        first
          | (refine wpAnyH_take (i := 8) (oi := ⟨(some 99), _, _, _, _, _⟩) (v := ?_) rfl (by kernel_rfl) (by kernel_rfl) (by kernel_rfl) (fun _ _ _ h => h) (Or.inl ⟨by rfl, ?_⟩) (by assumption) ?_; rotate_left; (focus (intro ww hSw; (try dsimp only at hSw); go_simp; (try with_reducible rfl))))
          | (refine wpAnyH_take (i := 8) (oi := ⟨(some 99), _, _, _, _, _⟩) (v := undef) rfl (by kernel_rfl) (by kernel_rfl) (by kernel_rfl) (fun _ _ _ h => h) (Or.inr ⟨by rfl, rfl⟩) (by assumption) ?_)
        (try simp only [Act.put, List.setIfInBounds_toArray, List.set_cons_zero, List.set_cons_succ])
        refine wpAnyH_ready (rs := [9]) (by kernel_rfl) (by simp) ?_
        refine AllReadyH.cons (o := ⟨(some 100), _, _, _, _, _⟩) rfl (fun K hK => ?_) AllReadyH.nil
        go_simp
        refine (retB (W0 := U3) (by first | assumption | exact Below.drew (by assumption)) (HPA.out _ (below_next HUB.out (by first | assumption | exact Below.drew (by assumption))))).mono ?_
        rintro e q1 ⟨v6, rfl, hs6, hq1⟩
        go_wp2_with fail
        refine hK.out _ _ ?_ (fun hHeld => ?_)
        · (try dsimp only)
          exact ⟨HTU.out _ (by first | assumption | exact Below.drew (by assumption)), HC1.out _ (by first | assumption | exact Below.drew (by assumption))⟩
        clear hK K
        (try simp only [Act.put, List.setIfInBounds_toArray, List.set_cons_zero, List.set_cons_succ])
        first
          | (refine wpAnyH_take (i := 10) (oi := ⟨(some 12), _, _, _, _, _⟩) (v := ?_) rfl (by kernel_rfl) (by kernel_rfl) (by kernel_rfl) (fun _ _ _ h => h) (Or.inl ⟨by rfl, ?_⟩) (by assumption) ?_; rotate_left; (focus (intro ww hSw; (try dsimp only at hSw); go_simp; (try with_reducible rfl))))
          | (refine wpAnyH_take (i := 10) (oi := ⟨(some 12), _, _, _, _, _⟩) (v := undef) rfl (by kernel_rfl) (by kernel_rfl) (by kernel_rfl) (fun _ _ _ h => h) (Or.inr ⟨by rfl, rfl⟩) (by assumption) ?_)
        (try simp only [Act.put, List.setIfInBounds_toArray, List.set_cons_zero, List.set_cons_succ])
        refine wpAnyH_done (by kernel_rfl) ?_ _
        obtain ⟨A6, c6, rfl, hr6, _⟩ := hs6.reads
        have hlen : (F.drop κ).length = N - κ := by rw [List.length_drop, HFL.out]
        have HEQ : Hid (∀ c' : Nat, Calls Try.prog 12 #[.slice A6 (N - κ) c6, .slice (some (ad.add κ)) (N - κ) c'] q1 fun e w' => e = .returned (.bool true) ∧ Below q1.heap.size q1 w') := fun c' => by
          have := ssIntsI_any A6 (some (ad.add κ)) c6 c' (F.drop κ) (F.drop κ) q1 hr6 (HRD.out _ hq1) (by rw [hlen]; omega) (by rw [hlen]; omega)
          rw [hlen] at this
          simpa using this
        rw [hlen]
        have c00 : q1.cell? ad = some (.int .i64 (off : Int)) := by simpa [Addr.add] using HC0.out _ hq1
        have b1 : ((N : Int) == (P : Int) + 1) = true := by rw [hPN]; simp
        have iκ : (κ : Int) ≤ (N : Int) := by omega
        have hcpκ : (N : Int) ≤ (p9 : Int) := by have := HCP.out; omega
        clear hs6 hr6 hlen hPN hb
        go_wp2_with fail
        refine (HEQ.out _).mono ?_
        rintro e q2 ⟨rfl, k2⟩
        have hq2 := below_next hq1 k2
        go_wp2
        go_ret
        exact ⟨rfl, HBU.out.trans (hq2.mono hwU)⟩
end Go.Proofs.Ytmecbiphejjkmaa.fnTrackPath
