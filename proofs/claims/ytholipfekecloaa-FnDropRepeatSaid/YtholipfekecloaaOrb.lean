/- Periods of registers and maximal taps: contracts of the program's functions. -/
import Derived.Test.YtholipfekecloaaPer
import Derived.Test.YtholipfekecloaaDrawP
import Derived.Test.YtholipfekecloaaChip
namespace Go.Proofs.Ytholipfekecloaa
set_option maxRecDepth 20000
open Go.ChangeShapes Go.WideShapes Go.ChangeAt Go.RowKit
set_option linter.unusedVariables false
set_option linter.unusedSimpArgs false

/-- the table of visited states: 0, or one more than the step -/
def visV (n T S P k j : Nat) : Int := if j < P then (seenTo n T S P k).getD j 0 + 1 else 0
set_option maxHeartbeats 4000000 in
theorem orbit_any (n T S P : Nat) (w : World) (hP : P = 2 ^ n) (hn : 2 ≤ n) (h8 : n ≤ 8) (hT : T < P) (hS : S < P) :
    Calls Try.prog 115 #[.agg #[.int .i64 (n : Int), .int .i64 (T : Int), .int .i64 (S : Int)]] w fun e w' => ∃ x : Int, e = .returned (.tuple #[.int .i64 x, .int .i64 (perOf n T S)]) ∧ Below w.heap.size w w' := by
  have hP2 : P ≤ 256 := pow_le hP h8
  have HS := Lib.hid (fun (k : Nat) (u : World) => nextI_any n T (stAt n T S k) P u hP hn h8 hT (stAt_lt hP hn hS k))
  have HLT := Lib.hid (fun k : Nat => stAt_lt (T := T) hP hn hS k)
  have HPE := Lib.hid hP
  clear hP hT hS
  go_enter Try.func115, Try.ntmps115
  have hzc : Hid (Try.zeroCells107 = madeCells #[.int .i64 0] 256) := Lib.hid (by kernel_rfl)
  have HR0 : Hid (RegAt ((w.alloc (.cells #[.int .i64 (n : Int), .int .i64 (T : Int), .int .i64 (S : Int)] 90)).alloc (.cells (madeCells #[.int .i64 0] 256) 107)) w.heap.size n T S) := (RegAt.box n T S _).alloc _
  have HW0 : Hid (((w.alloc (.cells #[.int .i64 (n : Int), .int .i64 (T : Int), .int .i64 (S : Int)] 90)).alloc (.cells (madeCells #[.int .i64 0] 256) 107)).rowIs (w.heap.size + 1) 107 256 (fun j => intV (visV n T S P 0 j))) := by
    have := World.rowIs_made (w.alloc (.cells #[.int .i64 (n : Int), .int .i64 (T : Int), .int .i64 (S : Int)] 90)) (.int .i64 0) 256 107
    simp only [World.size_alloc] at this
    refine this.congr (fun j hj => ?_)
    unfold visV
    split
    · rename_i h; simp [seenTo, List.getD_eq_getElem?_getD, h, intV]
    · rfl
  have HB0 : Hid (Below w.heap.size w ((w.alloc (.cells #[.int .i64 (n : Int), .int .i64 (T : Int), .int .i64 (S : Int)] 90)).alloc (.cells (madeCells #[.int .i64 0] 256) 107))) := ((Below.refl _ _).alloc (Nat.le_refl _) _).alloc (by simp) _
  go_wp2
  rw [hzc.out]
  clear hzc
  go_loopw [5] (fun i wr => ∃ k : Nat, i = .int .i64 (k : Int) ∧ (∀ i, i < k → (seenTo n T S P i).getD (stAt n T S i) 0 < 0) ∧ RegAt wr w.heap.size n T (stAt n T S k) ∧ wr.rowIs (w.heap.size + 1) 107 256 (fun j => intV (visV n T S P k j)) ∧ Below w.heap.size w wr) (fun i _ => P - (intOf i).toNat)
  case atStart => exact ⟨0, rfl, fun i hi => absurd hi (Nat.not_lt_zero i), HR0.out, HW0.out, HB0.out⟩
  case round =>
    clear HR0 HW0 HB0
    obtain ⟨k, rfl, hneg, hreg, hrow, hbl⟩ := hrel
    have hst := HLT.out k
    have hst2 : stAt n T S k < 256 := by omega
    have hc := hrow.cell hst2
    have hf := hrow.frozen (stAt n T S k)
    have hge := seen_ge n T S P k (stAt n T S k) hst
    have hvis : visV n T S P k (stAt n T S k) = (seenTo n T S P k).getD (stAt n T S k) 0 + 1 := by unfold visV; rw [if_pos hst]
    rw [hvis] at hc
    unfold intV at hc
    have HNEG := Lib.hid hneg
    have HR := Lib.hid hreg
    have HW := Lib.hid hrow
    have HB := Lib.hid hbl
    obtain ⟨r0, r1, r2, r3, r4⟩ := hreg
    have hcc := hbl.size
    by_cases hv : (seenTo n T S P k).getD (stAt n T S k) 0 < 0
    · have hkP := seen_lt HLT.out hneg hv
      have HV := Lib.hid hv
      have HC := Lib.hid (HS.out k)
      have HN : Hid (stepR n T (stAt n T S k) = stAt n T S (k + 1)) := rfl
      have hv1 : (seenTo n T S P k).getD (stAt n T S k) 0 + 1 = 0 := by omega
      rw [hv1] at hc
      have HW2 : Hid ((wr.setCell ⟨w.heap.size + 1, stAt n T S k, none⟩ (.int .i64 ((k : Int) + 1))).rowIs (w.heap.size + 1) 107 256 (fun j => intV (visV n T S P (k + 1) j))) := Lib.hid ((hrow.set (stAt n T S k) (.int .i64 ((k : Int) + 1))).congr (fun j hj => by
        have hl := seenTo_len n T S P k
        unfold visV
        simp only [seenTo, List.getD_eq_getElem?_getD, List.getElem?_set]
        by_cases e : j = stAt n T S k
        · subst e
          simp [hst, hl, intV]
        · rw [if_neg e, if_neg (Ne.symm e)]))
      clear hneg hrow hvis hv1 hv hge
      generalize hq : stAt n T S k = q at hst hst2 hc hf r2
      rw [hq] at HC HN HW2
      go_wp2_with fail
      refine (HC.out _).mono ?_
      rintro e w1 ⟨rfl, k1⟩
      have HR1 := Lib.hid ((HR.out.other (p := ⟨w.heap.size + 1, q, none⟩) (by simp) (.int .i64 ((k : Int) + 1))).below k1)
      have HW3 := Lib.hid (row_below HW2.out k1)
      have HB1 := Lib.hid ((HB.out.setCell (p := ⟨w.heap.size + 1, q, none⟩) (by simp) (.int .i64 ((k : Int) + 1))).trans (k1.mono (by simpa using HB.out.size)))
      clear k1 r0 r1 r2 r3 r4 hc hf HR HW HB HW2
      obtain ⟨r0, r1, r2, r3, r4⟩ := HR1.out
      go_wp2
      go_roundw
      case rel => exact ⟨k + 1, by go_num, fun i hi => by
        by_cases e : i = k
        · subst e; exact HV.out
        · exact HNEG.out i (by omega), (HR1.out.set _ (by rw [← HN.out])), HW3.out.setOther (by simp) _, HB1.out.setCell (by simp) _⟩
      case measure => simp [intOf]; omega
    · have hkP : k ≤ P := by have := negs_to HLT.out k hneg; omega
      have HRS : Hid (perOf n T S = (k : Int) - (seenTo n T S P k).getD (stAt n T S k) 0) := Lib.hid (by unfold perOf; rw [← HPE.out]; exact perF_of hneg hv (P + 1) 0 (Nat.zero_le _) (by omega))
      generalize (seenTo n T S P k).getD (stAt n T S k) 0 = v at *
      have hv1 : ((v + 1 : Int) == 0) = false := by rw [beq_eq_false_iff_ne]; omega
      clear hneg hrow hvis
      go_wp2
      go_ret2
      exact ⟨⟨v, by rw [HRS.out]; rfl⟩, HB.out⟩
theorem periodI_any (n T S P : Nat) (w : World) (hP : P = 2 ^ n) (hn : 2 ≤ n) (h8 : n ≤ 8) (hT : T < P) (hS : S < P) (hr : regOK (n : Int) (T : Int) (S : Int) = true) :
    Calls Try.prog 108 #[.agg #[.int .i64 (n : Int), .int .i64 (T : Int), .int .i64 (S : Int)]] w fun e w' => e = .returned (.int .i64 (perOf n T S)) ∧ Below w.heap.size w w' := by
  have HV := Lib.hid (fun u : World => regI_any (n : Int) (T : Int) (S : Int) u)
  rw [hr] at HV
  have HWK := Lib.hid (fun u : World => orbit_any n T S P u hP hn h8 hT hS)
  clear hP hr hT hS
  go_enter Try.func108, Try.ntmps108
  have hb := Below.refl (w.alloc (.cells #[.int .i64 (n : Int), .int .i64 (T : Int), .int .i64 (S : Int)] 90)).heap.size (w.alloc (.cells #[.int .i64 (n : Int), .int .i64 (T : Int), .int .i64 (S : Int)] 90))
  go_wp2_with fail
  refine (HV.out _).mono ?_
  rintro e w1 ⟨rfl, k⟩
  replace hb := below_next hb k
  clear k
  (try clear hc hf)
  obtain ⟨hc, hf⟩ := bcell hb
  go_wp2_with fail
  refine (HWK.out _).mono ?_
  rintro e w2 ⟨x, rfl, k2⟩
  replace hb := below_next hb k2
  go_wp2
  go_ret
  exact ⟨rfl, below_out hb⟩
set_option maxHeartbeats 2000000 in
theorem maxiI_any (n T P : Nat) (w : World) (hP : P = 2 ^ n) (hn : 2 ≤ n) (h8 : n ≤ 8) (hT : T < P) (hT1 : 1 ≤ T) :
    Calls Try.prog 103 #[.int .i64 (n : Int), .int .i64 (T : Int)] w fun e w' => e = .returned (.bool (decide (perOf n T 1 = ((2 ^ n : Nat) : Int) - 1))) ∧ Below w.heap.size w w' := by
  have h4 : 4 ≤ P := by rw [hP]; exact Nat.pow_le_pow_right (show 0 < 2 by omega) (show 2 ≤ n from hn)
  have hP2 : P ≤ 256 := pow_le hP h8
  have hpw : pw (n : Int) = (P : Int) := by unfold pw; rw [Int.toNat_natCast, ← hP]
  have ht : tapOK (n : Int) (T : Int) = true := by unfold tapOK; rw [hpw, inB_yes (by omega) (by omega), inB_yes (by omega) (by omega)]; rfl
  have hr : regOK (n : Int) (T : Int) ((1 : Nat) : Int) = true := by unfold regOK; rw [ht, hpw, inB_yes (by omega) (by omega)]; rfl
  have HP : Hid (∀ u : World, Calls Try.prog 108 #[.agg #[.int .i64 (n : Int), .int .i64 (T : Int), .int .i64 1]] u fun e w' => e = .returned (.int .i64 (perOf n T 1)) ∧ Below u.heap.size u w') := Lib.hid (fun u : World => periodI_any n T 1 P u hP hn h8 hT (by omega) hr)
  have HT : Hid (∀ u : World, Calls Try.prog 107 #[.int .i64 (n : Int), .int .i64 (T : Int)] u fun e w' => e = .returned (.bool true) ∧ u = w') := Lib.hid (fun u : World => by have := tapI_any (n : Int) (T : Int) u; rw [ht] at this; exact this)
  obtain ⟨P2, e1, e2, e3, e4⟩ := pow_facts n h8
  obtain rfl : P = P2 := by omega
  have e2' : IntKind.i64.wrap ((2 : Int) ^ n) = (P : Int) := by rw [show (2 : Int) ^ n = (P : Int) by rw [hP]; simp]; exact IntWalk.i64_in _ (by omega)
  rw [← hP]
  generalize perOf n T 1 = v at *
  have hb := Below.refl w.heap.size w
  clear hr hP ht hpw e1
  go_enter Try.func103, Try.ntmps103
  have hw1 : IntKind.i64.wrap ((P : Int) - 1) = (P : Int) - 1 := IntWalk.i64_in _ (by omega)
  go_wp2
  refine wp_region_held_drew (S := (fun u => 0 ≤ u.heap.size)) (by kernel_rfl) ?_ (fun hHeld => ?_)
  · (try dsimp only)
    exact Nat.zero_le _
  first
    | (refine wpAnyH_take (i := 0) (oi := ⟨(some 5), _, _, _, _, _⟩) (v := ?_) rfl (by kernel_rfl) (by kernel_rfl) (by kernel_rfl) (fun _ _ _ h => h) (Or.inl ⟨by rfl, ?_⟩) (by assumption) ?_; rotate_left; (focus (intro ww hSw; (try dsimp only at hSw); go_simp; (try with_reducible rfl))))
    | (refine wpAnyH_take (i := 0) (oi := ⟨(some 5), _, _, _, _, _⟩) (v := undef) rfl (by kernel_rfl) (by kernel_rfl) (by kernel_rfl) (fun _ _ _ h => h) (Or.inr ⟨by rfl, rfl⟩) (by assumption) ?_)
  (try simp only [Act.put, List.setIfInBounds_toArray, List.set_cons_zero, List.set_cons_succ])
  first
    | (refine wpAnyH_take (i := 1) (oi := ⟨(some 6), _, _, _, _, _⟩) (v := ?_) rfl (by kernel_rfl) (by kernel_rfl) (by kernel_rfl) (fun _ _ _ h => h) (Or.inl ⟨by rfl, ?_⟩) (by assumption) ?_; rotate_left; (focus (intro ww hSw; (try dsimp only at hSw); go_simp; (try with_reducible rfl))))
    | (refine wpAnyH_take (i := 1) (oi := ⟨(some 6), _, _, _, _, _⟩) (v := undef) rfl (by kernel_rfl) (by kernel_rfl) (by kernel_rfl) (fun _ _ _ h => h) (Or.inr ⟨by rfl, rfl⟩) (by assumption) ?_)
  (try simp only [Act.put, List.setIfInBounds_toArray, List.set_cons_zero, List.set_cons_succ])
  refine wpAnyH_ready (rs := [2]) (by kernel_rfl) (by simp) ?_
  refine AllReadyH.cons (o := ⟨(some 7), _, _, _, _, _⟩) rfl (fun K hK => ?_) AllReadyH.nil
  go_simp
  refine (rel_same (W0 := w) (by first | assumption | exact Below.drew (by assumption)) (HT.out _)).mono ?_
  rintro e q1 ⟨rfl, hq1⟩
  clear hb
  go_wp2_with fail
  refine hK.out _ _ ?_ (fun hHeld => ?_)
  · (try dsimp only)
    exact Nat.zero_le _
  clear hK K
  (try simp only [Act.put, List.setIfInBounds_toArray, List.set_cons_zero, List.set_cons_succ])
  first
    | (refine wpAnyH_take (i := 3) (oi := ⟨(some 8), _, _, _, _, _⟩) (v := ?_) rfl (by kernel_rfl) (by kernel_rfl) (by kernel_rfl) (fun _ _ _ h => h) (Or.inl ⟨by rfl, ?_⟩) (by assumption) ?_; rotate_left; (focus (intro ww hSw; (try dsimp only at hSw); go_simp; (try with_reducible rfl))))
    | (refine wpAnyH_take (i := 3) (oi := ⟨(some 8), _, _, _, _, _⟩) (v := undef) rfl (by kernel_rfl) (by kernel_rfl) (by kernel_rfl) (fun _ _ _ h => h) (Or.inr ⟨by rfl, rfl⟩) (by assumption) ?_)
  (try simp only [Act.put, List.setIfInBounds_toArray, List.set_cons_zero, List.set_cons_succ])
  first
    | (refine wpAnyH_take (i := 4) (oi := ⟨(some 9), _, _, _, _, _⟩) (v := ?_) rfl (by kernel_rfl) (by kernel_rfl) (by kernel_rfl) (fun _ _ _ h => h) (Or.inl ⟨by rfl, ?_⟩) (by assumption) ?_; rotate_left; (focus (intro ww hSw; (try dsimp only at hSw); go_simp; (try with_reducible rfl))))
    | (refine wpAnyH_take (i := 4) (oi := ⟨(some 9), _, _, _, _, _⟩) (v := undef) rfl (by kernel_rfl) (by kernel_rfl) (by kernel_rfl) (fun _ _ _ h => h) (Or.inr ⟨by rfl, rfl⟩) (by assumption) ?_)
  (try simp only [Act.put, List.setIfInBounds_toArray, List.set_cons_zero, List.set_cons_succ])
  first
    | (refine wpAnyH_take (i := 5) (oi := ⟨(some 10), _, _, _, _, _⟩) (v := ?_) rfl (by kernel_rfl) (by kernel_rfl) (by kernel_rfl) (fun _ _ _ h => h) (Or.inl ⟨by rfl, ?_⟩) (by assumption) ?_; rotate_left; (focus (intro ww hSw; (try dsimp only at hSw); go_simp; (try with_reducible rfl))))
    | (refine wpAnyH_take (i := 5) (oi := ⟨(some 10), _, _, _, _, _⟩) (v := undef) rfl (by kernel_rfl) (by kernel_rfl) (by kernel_rfl) (fun _ _ _ h => h) (Or.inr ⟨by rfl, rfl⟩) (by assumption) ?_)
  (try simp only [Act.put, List.setIfInBounds_toArray, List.set_cons_zero, List.set_cons_succ])
  first
    | (refine wpAnyH_take (i := 6) (oi := ⟨(some 11), _, _, _, _, _⟩) (v := ?_) rfl (by kernel_rfl) (by kernel_rfl) (by kernel_rfl) (fun _ _ _ h => h) (Or.inl ⟨by rfl, ?_⟩) (by assumption) ?_; rotate_left; (focus (intro ww hSw; (try dsimp only at hSw); go_simp; (try with_reducible rfl))))
    | (refine wpAnyH_take (i := 6) (oi := ⟨(some 11), _, _, _, _, _⟩) (v := undef) rfl (by kernel_rfl) (by kernel_rfl) (by kernel_rfl) (fun _ _ _ h => h) (Or.inr ⟨by rfl, rfl⟩) (by assumption) ?_)
  (try simp only [Act.put, List.setIfInBounds_toArray, List.set_cons_zero, List.set_cons_succ])
  first
    | (refine wpAnyH_take (i := 8) (oi := ⟨(some 13), _, _, _, _, _⟩) (v := ?_) rfl (by kernel_rfl) (by kernel_rfl) (by kernel_rfl) (fun _ _ _ h => h) (Or.inl ⟨by rfl, ?_⟩) (by assumption) ?_; rotate_left; (focus (intro ww hSw; (try dsimp only at hSw); go_simp; (try with_reducible rfl))))
    | (refine wpAnyH_take (i := 8) (oi := ⟨(some 13), _, _, _, _, _⟩) (v := undef) rfl (by kernel_rfl) (by kernel_rfl) (by kernel_rfl) (fun _ _ _ h => h) (Or.inr ⟨by rfl, rfl⟩) (by assumption) ?_)
  (try simp only [Act.put, List.setIfInBounds_toArray, List.set_cons_zero, List.set_cons_succ])
  first
    | (refine wpAnyH_take (i := 9) (oi := ⟨(some 14), _, _, _, _, _⟩) (v := ?_) rfl (by kernel_rfl) (by kernel_rfl) (by kernel_rfl) (fun _ _ _ h => h) (Or.inl ⟨by rfl, ?_⟩) (by assumption) ?_; rotate_left; (focus (intro ww hSw; (try dsimp only at hSw); go_simp; (try with_reducible rfl))))
    | (refine wpAnyH_take (i := 9) (oi := ⟨(some 14), _, _, _, _, _⟩) (v := undef) rfl (by kernel_rfl) (by kernel_rfl) (by kernel_rfl) (fun _ _ _ h => h) (Or.inr ⟨by rfl, rfl⟩) (by assumption) ?_)
  (try simp only [Act.put, List.setIfInBounds_toArray, List.set_cons_zero, List.set_cons_succ])
  first
    | (refine wpAnyH_take (i := 10) (oi := ⟨(some 15), _, _, _, _, _⟩) (v := ?_) rfl (by kernel_rfl) (by kernel_rfl) (by kernel_rfl) (fun _ _ _ h => h) (Or.inl ⟨by rfl, ?_⟩) (by assumption) ?_; rotate_left; (focus (intro ww hSw; (try dsimp only at hSw); go_simp; (try with_reducible rfl))))
    | (refine wpAnyH_take (i := 10) (oi := ⟨(some 15), _, _, _, _, _⟩) (v := undef) rfl (by kernel_rfl) (by kernel_rfl) (by kernel_rfl) (fun _ _ _ h => h) (Or.inr ⟨by rfl, rfl⟩) (by assumption) ?_)
  (try simp only [Act.put, List.setIfInBounds_toArray, List.set_cons_zero, List.set_cons_succ])
  refine wpAnyH_ready (rs := [7]) (by kernel_rfl) (by simp) ?_
  refine AllReadyH.cons (o := ⟨(some 12), _, _, _, _, _⟩) rfl (fun K hK => ?_) AllReadyH.nil
  go_simp
  refine (rel_of (W0 := w) (by first | assumption | exact Below.drew (by assumption)) (HP.out _)).mono ?_
  rintro e q2 ⟨rfl, hq2⟩
  clear hq1
  go_wp2_with fail
  refine hK.out _ _ ?_ (fun hHeld => ?_)
  · (try dsimp only)
    exact Nat.zero_le _
  clear hK K
  (try simp only [Act.put, List.setIfInBounds_toArray, List.set_cons_zero, List.set_cons_succ])
  first
    | (refine wpAnyH_take (i := 11) (oi := ⟨(some 16), _, _, _, _, _⟩) (v := ?_) rfl (by kernel_rfl) (by kernel_rfl) (by kernel_rfl) (fun _ _ _ h => h) (Or.inl ⟨by rfl, ?_⟩) (by assumption) ?_; rotate_left; (focus (intro ww hSw; (try dsimp only at hSw); go_simp; (try with_reducible rfl))))
    | (refine wpAnyH_take (i := 11) (oi := ⟨(some 16), _, _, _, _, _⟩) (v := undef) rfl (by kernel_rfl) (by kernel_rfl) (by kernel_rfl) (fun _ _ _ h => h) (Or.inr ⟨by rfl, rfl⟩) (by assumption) ?_)
  (try simp only [Act.put, List.setIfInBounds_toArray, List.set_cons_zero, List.set_cons_succ])
  first
    | (refine wpAnyH_take (i := 12) (oi := ⟨(some 17), _, _, _, _, _⟩) (v := ?_) rfl (by kernel_rfl) (by kernel_rfl) (by kernel_rfl) (fun _ _ _ h => h) (Or.inl ⟨by rfl, ?_⟩) (by assumption) ?_; rotate_left; (focus (intro ww hSw; (try dsimp only at hSw); go_simp; (try with_reducible rfl))))
    | (refine wpAnyH_take (i := 12) (oi := ⟨(some 17), _, _, _, _, _⟩) (v := undef) rfl (by kernel_rfl) (by kernel_rfl) (by kernel_rfl) (fun _ _ _ h => h) (Or.inr ⟨by rfl, rfl⟩) (by assumption) ?_)
  (try simp only [Act.put, List.setIfInBounds_toArray, List.set_cons_zero, List.set_cons_succ])
  first
    | (refine wpAnyH_take (i := 13) (oi := ⟨(some 4), _, _, _, _, _⟩) (v := ?_) rfl (by kernel_rfl) (by kernel_rfl) (by kernel_rfl) (fun _ _ _ h => h) (Or.inl ⟨by rfl, ?_⟩) (by assumption) ?_; rotate_left; (focus (intro ww hSw; (try dsimp only at hSw); go_simp; (try with_reducible rfl))))
    | (refine wpAnyH_take (i := 13) (oi := ⟨(some 4), _, _, _, _, _⟩) (v := undef) rfl (by kernel_rfl) (by kernel_rfl) (by kernel_rfl) (fun _ _ _ h => h) (Or.inr ⟨by rfl, rfl⟩) (by assumption) ?_)
  (try simp only [Act.put, List.setIfInBounds_toArray, List.set_cons_zero, List.set_cons_succ])
  refine wpAnyH_done (by kernel_rfl) ?_ _
  go_wp2
  go_ret
  exact ⟨ret_bool (by simp [Bool.beq_eq_decide_eq]), (by first | assumption | exact Below.drew (by assumption))⟩
set_option maxHeartbeats 2000000 in
theorem tapsI_any (n P : Nat) (w : World) (hP : P = 2 ^ n) (hn : 2 ≤ n) (h8 : n ≤ 8) :
    Calls Try.prog 91 #[.int .i64 (n : Int)] w fun e w' => ∃ g cap : Nat, e = .returned (.slice (some ⟨g, 0, none⟩) (maxL n).length cap) ∧ Own w' w.heap.size 3 g (maxL n).length cap ((maxL n).map intV) ∧ Below w.heap.size w w' := by
  have hP2 : P ≤ 256 := pow_le hP h8
  have h4 : 4 ≤ P := by rw [hP]; exact Nat.pow_le_pow_right (show 0 < 2 by omega) (show 2 ≤ n from hn)
  have HM := Lib.hid (fun (T : Nat) (h1 : 1 ≤ T) (h2 : T < P) (u : World) => maxiI_any n T P u hP hn h8 h2 h1)
  obtain ⟨P2, e1, e2, e3, e4⟩ := pow_facts n h8
  obtain rfl : P = P2 := by omega
  have HE : Hid (maxL n = maxTo n P) := Lib.hid (by unfold maxL; rw [hP])
  have HN := Lib.hid (fun (k : Nat) (h : 1 ≤ k) => maxTo_next n k h)
  rw [← hP] at HM HN
  rw [HE.out]
  clear hP e1
  go_enter Try.func91, Try.ntmps91
  go_wp2
  go_loopw [3, 4] (fun v i wr => ∃ (k g cap : Nat), i = .int .i64 (k : Int) ∧ v = .slice (some ⟨g, 0, none⟩) (maxTo n k).length cap ∧ 1 ≤ k ∧ k ≤ P ∧ Own wr w.heap.size 3 g (maxTo n k).length cap ((maxTo n k).map intV) ∧ Below w.heap.size w wr) (fun _ i _ => P - (intOf i).toNat)
  case atStart =>
    refine ⟨1, w.heap.size, 0, rfl, by rw [maxTo_one]; rfl, Nat.le_refl _, by omega, ?_, (Below.refl _ _).alloc (Nat.le_refl _) _⟩
    rw [maxTo_one]
    exact Own.lit (w := w) (B := w.heap.size) 3 #[] 0 (Nat.le_refl _) (Nat.zero_le _) rfl
  case round =>
    obtain ⟨k, g, cap, rfl, rfl, h1, hk, hown, hb⟩ := hrel
    have hlen := maxTo_len n k
    by_cases hlt : k < P
    · have hm := HM.out k h1 hlt
      have hnx := HN.out k h1
      by_cases hp : perOf n k 1 = (P : Int) - 1
      · rw [decide_eq_true hp] at hm
        rw [if_pos hp] at hnx
        have HM2 := Lib.hid hm
        have HNX := Lib.hid hnx
        clear hm hnx hp
        go_wp2_with fail
        refine (HM2.out _).mono ?_
        rintro e w1 ⟨rfl, k1⟩
        have hown1 := hown.below k1 hown.lt.2
        have hb1 := hb.trans (k1.mono hb.size)
        clear hown hb k1
        go_wp2_with (at_builtin; refine app1 (w0 := w) 32 3 Try.underlying32 info_int rfl rfl _ _ rfl w.heap.size g (maxTo n k).length cap _ _ rfl rfl hown1 hb1 (Nat.le_refl _) rfl (by omega) (by unfold maxLen; omega) ?_; intro g2 cap2 w2 hown2 hb2)
        clear hown1 hb1
        have e : (maxTo n (k + 1)).length = (maxTo n k).length + 1 := by rw [HNX.out]; simp
        rw [← e] at hown2 ⊢
        go_wp2
        go_roundw
        case rel => exact ⟨k + 1, g2, cap2, by go_num, rfl, by omega, by omega, by rw [HNX.out] at hown2 ⊢; simpa [intV] using hown2, hb2⟩
        case measure => simp [intOf]; omega
      · rw [decide_eq_false hp] at hm
        rw [if_neg hp] at hnx
        have HM2 := Lib.hid hm
        have HNX := Lib.hid hnx
        clear hm hnx hp
        go_wp2_with fail
        refine (HM2.out _).mono ?_
        rintro e w1 ⟨rfl, k1⟩
        have hown1 := hown.below k1 hown.lt.2
        have hb1 := hb.trans (k1.mono hb.size)
        clear hown hb k1
        go_wp2
        go_roundw
        case rel => exact ⟨k + 1, g, cap, by go_num, by rw [HNX.out], by omega, by omega, by rw [HNX.out]; exact hown1, hb1⟩
        case measure => simp [intOf]; omega
    · obtain rfl : k = P := by omega
      go_wp2
      go_ret
      exact ⟨g, cap, rfl, hown, hb⟩
theorem ssRunI_yes (n T S P c : Nat) (w : World) (hP : P = 2 ^ n) (hn : 2 ≤ n) (h8 : n ≤ 8) (hT : T < P) (hS : S < P) (hc6 : c ≤ 600) (hr : regOK (n : Int) (T : Int) (S : Int) = true) :
    Calls Try.prog 92 #[.agg #[.int .i64 (n : Int), .int .i64 (T : Int), .int .i64 (S : Int)], .int .i64 (c : Int)] w fun e w' => e = .returned (.string (str (runL n T S c))) ∧ Below w.heap.size w w' := by
  have HR := Lib.hid (fun u : World => runI_yes n T S P c u hP hn h8 hT hS hc6 hr)
  clear hP hT hS hr
  go_enter Try.func92, Try.ntmps92
  have hb := Below.refl (w.alloc (.cells #[.int .i64 (n : Int), .int .i64 (T : Int), .int .i64 (S : Int)] 90)).heap.size (w.alloc (.cells #[.int .i64 (n : Int), .int .i64 (T : Int), .int .i64 (S : Int)] 90))
  go_wp2_with fail
  refine (HR.out _).mono ?_
  rintro e w1 ⟨rfl, k⟩
  replace hb := below_next hb k
  clear k
  (try clear hc hf)
  obtain ⟨hc, hf⟩ := bcell hb
  go_wp2
  go_ret
  exact ⟨rfl, below_out hb⟩
end Go.Proofs.Ytholipfekecloaa
