/- Contracts of the reference's DropSample and RepeatSample. -/
import Derived.Test.YtholipfekecloaaDrop
import Derived.Deep.RegionHeld3
namespace Go.Proofs.Ytholipfekecloaa
set_option maxRecDepth 20000
open Go.ChangeShapes Go.WideShapes Go.ChangeAt Go.RowKit
set_option linter.unusedVariables false
set_option linter.unusedSimpArgs false

theorem sl_empty {w : World} : Sl (w.alloc (.cells #[] 3)) w.heap.size (w.alloc (.cells #[] 3)).heap.size (.slice (some ⟨w.heap.size, 0, none⟩) 0 0) [] := Sl.of_own (l := []) (Own.lit (w := w) (B := w.heap.size) 3 #[] 0 (Nat.le_refl _) (Nat.zero_le _) rfl) (by simp)
theorem l4Res_any {w : World} {lo : Nat} {v : Value} {l : List Int} (h : Sl w lo w.heap.size v l) (hlo : lo ≤ w.heap.size) (hl : l.length ≤ 1048576) :
    Calls Try.prog 64 #[v] w fun e w' => ∃ v', e = .returned (.tuple #[v', .bool (sigOK l)]) ∧ Sl w' lo w'.heap.size v' (okL l) ∧ Below w.heap.size w w' := by
  obtain ⟨A, c, rfl, hr, hc⟩ := h.reads
  have HV := Lib.hid (sigS_any A c l w hr hl)
  cases hv : sigOK l
  · rw [hv] at HV
    rw [okL_no hv]
    go_enter Try.func64, Try.ntmps64
    go_wp2_with fail
    refine (HV.out).mono ?_
    rintro e w' ⟨rfl, rfl⟩
    go_wp2
    go_ret2
    exact ⟨_, rfl, sl_empty.mono hlo (Nat.le_refl _), (Below.refl _ _).alloc (Nat.le_refl _) _⟩
  · rw [hv] at HV
    rw [okL_yes hv]
    have HS := Lib.hid h
    clear h
    go_enter Try.func64, Try.ntmps64
    go_wp2_with fail
    refine (HV.out).mono ?_
    rintro e w' ⟨rfl, rfl⟩
    go_wp2
    go_ret2
    exact ⟨_, rfl, HS.out, Below.refl _ _⟩
set_option maxHeartbeats 4000000 in
theorem dropS_any (A : Option Addr) (c : Nat) (z : List Int) (x : Int) (w : World) (hr : Reads w w.heap.size A z) (hcap : z.length ≤ c) (hl : z.length ≤ 1048576) :
    Calls Try.prog 25 #[.slice A z.length c, .int .i64 x] w (RetLB (wcL z x 0) (wcOK z x 0) w) := by
  have HV := Lib.hid (sigS_any A c z w hr hl)
  cases hv : sigOK z
  · rw [hv] at HV
    have e : wcOK z x 0 = false := by unfold wcOK; rw [hv]; rfl
    rw [wc_no e, e]
    go_enter Try.func25, Try.ntmps25
    go_wp2_with fail
    refine (HV.out).mono ?_
    rintro e w' ⟨rfl, rfl⟩
    go_wp2
    go_ret2
    exact RetLB.mk sl_empty ((Below.refl _ _).alloc (Nat.le_refl _) _)
  · rw [hv] at HV
    have HIN := Lib.hid (fun u : World => l1In_any x 0 ((z.length : Int) - 1) u)
    by_cases h01 : 0 ≤ x ∧ x ≤ (z.length : Int) - 1
    · rw [inB_yes h01.1 h01.2] at HIN
      obtain ⟨k, rfl⟩ : ∃ k : Nat, x = (k : Int) := ⟨x.toNat, by omega⟩
      have hk : k < z.length := by omega
      have hs0 := drop_sig (k := k) hv
      have hz3 := sig_len hv
      have e : wcOK z (k : Int) 0 = true := by unfold wcOK; rw [hv, decide_eq_true (show (0 : Int) ≤ (k : Int) by omega), decide_eq_true (show (k : Int) < (z.length : Int) by omega), Int.toNat_natCast, hs0]; rfl
      have HE : Hid (wcL z (k : Int) 0 = z.take k ++ z.drop (k + 1)) := Lib.hid (by rw [wc_yes e, Int.toNat_natCast]; simp [copyL])
      rw [e]
      obtain ⟨ad, rfl, hadb, hcell⟩ := hr (by omega)
      have HCL := Lib.hid hcell
      have hA1 : Hid (∀ u, Below w.heap.size w u → ∃ ad', (some ad : Option Addr) = some ad' ∧ ∀ i, i < (z.take k).length → u.cell? (ad'.add i) = some (.int .i64 ((z.take k).getD i 0))) := Lib.hid fun u hb => ⟨ad, rfl, fun i hi => by
        have hi2 : i < k := by simp at hi; omega
        rw [hb.cell (by rw [add_blk]; exact hadb), HCL.out _ (by omega)]
        simp [List.getD_eq_getElem?_getD, List.getElem?_take, hi2]⟩
      have hA2 : Hid (∀ u, Below w.heap.size w u → ∃ ad', (if c = k + 1 then some ad else some (ad.add (k + 1))) = some ad' ∧ ∀ i, i < (z.drop (k + 1)).length → u.cell? (ad'.add i) = some (.int .i64 ((z.drop (k + 1)).getD i 0))) := Lib.hid fun u hb => by
        by_cases hc1 : c = k + 1
        · exact ⟨ad, if_pos hc1, fun i hi => by simp at hi; omega⟩
        · refine ⟨ad.add (k + 1), if_neg hc1, fun i hi => ?_⟩
          rw [List.length_drop] at hi
          rw [add_of_add, hb.cell (by rw [add_blk]; exact hadb), HCL.out _ (by omega)]
          simp [List.getD_eq_getElem?_getD]
      have t1 : (z.take k).length = k := by simp; omega
      have t2 : (z.drop (k + 1)).length = z.length - (k + 1) := List.length_drop
      have T1 := Lib.hid t1
      have T2 := Lib.hid t2
      have q0 : (0 : Int) ≤ (k : Int) := by omega
      have q1 : (k : Int) ≤ (c : Int) := by omega
      have q2 : IntKind.i64.wrap ((k : Int) + 1) = (k : Int) + 1 := IntWalk.i64_in _ (by omega)
      have q3 : (k : Int) + 1 ≤ (z.length : Int) := by omega
      have q4 : (z.length : Int) ≤ (c : Int) := by omega
      have q5 : (0 : Int) ≤ (k : Int) + 1 := by omega
      clear hr hcell hs0 e hv t1 t2
      generalize wcL z (k : Int) 0 = out at *
      go_enter Try.func25, Try.ntmps25
      go_wp2_with fail
      refine (HV.out).mono ?_
      rintro e w' ⟨rfl, rfl⟩
      go_wp2_with fail
      refine (HIN.out _).mono ?_
      rintro e w' ⟨rfl, rfl⟩
      go_wp2
      refine wp_region_held_drew (S := (fun _ => True)) (by kernel_rfl) ?_ (fun hHeld => ?_)
      · (try dsimp only)
        first | done | trivial
      first
        | (refine wpAnyH_take (i := 1) (oi := ⟨(some 19), _, _, _, _, _⟩) (v := ?_) rfl (by kernel_rfl) (by kernel_rfl) (by kernel_rfl) (fun _ _ _ h => h) (Or.inl ⟨by rfl, ?_⟩) (by assumption) ?_; rotate_left; (focus (intro ww hSw; (try dsimp only at hSw); go_simp; (try with_reducible rfl))))
        | (refine wpAnyH_take (i := 1) (oi := ⟨(some 19), _, _, _, _, _⟩) (v := undef) rfl (by kernel_rfl) (by kernel_rfl) (by kernel_rfl) (fun _ _ _ h => h) (Or.inr ⟨by rfl, rfl⟩) (by assumption) ?_)
      (try simp only [Act.put, List.setIfInBounds_toArray, List.set_cons_zero, List.set_cons_succ])
      first
        | (refine wpAnyH_take (i := 2) (oi := ⟨(some 20), _, _, _, _, _⟩) (v := ?_) rfl (by kernel_rfl) (by kernel_rfl) (by kernel_rfl) (fun _ _ _ h => h) (Or.inl ⟨by rfl, ?_⟩) (by assumption) ?_; rotate_left; (focus (intro ww hSw; (try dsimp only at hSw); go_simp; (try with_reducible rfl))))
        | (refine wpAnyH_take (i := 2) (oi := ⟨(some 20), _, _, _, _, _⟩) (v := undef) rfl (by kernel_rfl) (by kernel_rfl) (by kernel_rfl) (fun _ _ _ h => h) (Or.inr ⟨by rfl, rfl⟩) (by assumption) ?_)
      (try simp only [Act.put, List.setIfInBounds_toArray, List.set_cons_zero, List.set_cons_succ])
      first
        | (refine wpAnyH_take (i := 3) (oi := ⟨(some 21), _, _, _, _, _⟩) (v := ?_) rfl (by kernel_rfl) (by kernel_rfl) (by kernel_rfl) (fun _ _ _ h => h) (Or.inl ⟨by rfl, ?_⟩) (by assumption) ?_; rotate_left; (focus (intro ww hSw; (try dsimp only at hSw); go_simp; (try with_reducible rfl))))
        | (refine wpAnyH_take (i := 3) (oi := ⟨(some 21), _, _, _, _, _⟩) (v := undef) rfl (by kernel_rfl) (by kernel_rfl) (by kernel_rfl) (fun _ _ _ h => h) (Or.inr ⟨by rfl, rfl⟩) (by assumption) ?_)
      (try simp only [Act.put, List.setIfInBounds_toArray, List.set_cons_zero, List.set_cons_succ])
      first
        | (refine wpAnyH_take (i := 5) (oi := ⟨(some 23), _, _, _, _, _⟩) (v := ?_) rfl (by kernel_rfl) (by kernel_rfl) (by kernel_rfl) (fun _ _ _ h => h) (Or.inl ⟨by rfl, ?_⟩) (by assumption) ?_; rotate_left; (focus (intro ww hSw; (try dsimp only at hSw); go_simp; (try with_reducible rfl))))
        | (refine wpAnyH_take (i := 5) (oi := ⟨(some 23), _, _, _, _, _⟩) (v := undef) rfl (by kernel_rfl) (by kernel_rfl) (by kernel_rfl) (fun _ _ _ h => h) (Or.inr ⟨by rfl, rfl⟩) (by assumption) ?_)
      (try simp only [Act.put, List.setIfInBounds_toArray, List.set_cons_zero, List.set_cons_succ])
      first
        | (refine wpAnyH_take (i := 6) (oi := ⟨(some 24), _, _, _, _, _⟩) (v := ?_) rfl (by kernel_rfl) (by kernel_rfl) (by kernel_rfl) (fun _ _ _ h => h) (Or.inl ⟨by rfl, ?_⟩) (by assumption) ?_; rotate_left; (focus (intro ww hSw; (try dsimp only at hSw); go_simp; (try with_reducible rfl))))
        | (refine wpAnyH_take (i := 6) (oi := ⟨(some 24), _, _, _, _, _⟩) (v := undef) rfl (by kernel_rfl) (by kernel_rfl) (by kernel_rfl) (fun _ _ _ h => h) (Or.inr ⟨by rfl, rfl⟩) (by assumption) ?_)
      (try simp only [Act.put, List.setIfInBounds_toArray, List.set_cons_zero, List.set_cons_succ])
      first
        | (refine wpAnyH_take (i := 7) (oi := ⟨(some 25), _, _, _, _, _⟩) (v := ?_) rfl (by kernel_rfl) (by kernel_rfl) (by kernel_rfl) (fun _ _ _ h => h) (Or.inl ⟨by rfl, ?_⟩) (by assumption) ?_; rotate_left; (focus (intro ww hSw; (try dsimp only at hSw); go_simp; (try with_reducible rfl))))
        | (refine wpAnyH_take (i := 7) (oi := ⟨(some 25), _, _, _, _, _⟩) (v := undef) rfl (by kernel_rfl) (by kernel_rfl) (by kernel_rfl) (fun _ _ _ h => h) (Or.inr ⟨by rfl, rfl⟩) (by assumption) ?_)
      (try simp only [Act.put, List.setIfInBounds_toArray, List.set_cons_zero, List.set_cons_succ])
      first
        | (refine wpAnyH_take (i := 8) (oi := ⟨(some 26), _, _, _, _, _⟩) (v := ?_) rfl (by kernel_rfl) (by kernel_rfl) (by kernel_rfl) (fun _ _ _ h => h) (Or.inl ⟨by rfl, ?_⟩) (by assumption) ?_; rotate_left; (focus (intro ww hSw; (try dsimp only at hSw); go_simp; (try with_reducible rfl))))
        | (refine wpAnyH_take (i := 8) (oi := ⟨(some 26), _, _, _, _, _⟩) (v := undef) rfl (by kernel_rfl) (by kernel_rfl) (by kernel_rfl) (fun _ _ _ h => h) (Or.inr ⟨by rfl, rfl⟩) (by assumption) ?_)
      (try simp only [Act.put, List.setIfInBounds_toArray, List.set_cons_zero, List.set_cons_succ])
      refine wpAnyH_ready (rs := [0]) (by kernel_rfl) (by simp) ?_
      refine AllReadyH.cons (o := ⟨(some 18), _, _, _, _, _⟩) rfl (fun K hK => ?_) AllReadyH.nil
      go_simp
      refine hK.out _ _ ?_ (fun hHeld => ?_)
      · (try dsimp only)
        first | done | trivial
      clear hK K
      (try simp only [Act.put, List.setIfInBounds_toArray, List.set_cons_zero, List.set_cons_succ])
      refine wpAnyH_ready (rs := [4]) (by kernel_rfl) (by simp) ?_
      refine AllReadyH.cons (o := ⟨(some 22), _, _, _, _, _⟩) rfl (fun K hK => ?_) AllReadyH.nil
      refine stepSl (w0 := w) rfl _ _ rfl w.heap.size _ [] (z.take k) (some ad) k c rfl rfl T1.out (sl_empty (w := w.drew)) (hA1.out _ ((Below.refl w.heap.size w).drew.alloc (Nat.le_refl _) _)) ((Below.refl w.heap.size w).drew.alloc (Nat.le_refl _) _) (Nat.le_refl _) (by have := T1.out; simp; omega) ?_
      intro v1 w1 hs1 hb1
      refine hK.out _ _ ?_ (fun hHeld => ?_)
      · (try dsimp only)
        first | done | trivial
      clear hK K
      (try simp only [Act.put, List.setIfInBounds_toArray, List.set_cons_zero, List.set_cons_succ])
      refine wpAnyH_ready (rs := [9]) (by kernel_rfl) (by simp) ?_
      refine AllReadyH.cons (o := ⟨(some 27), _, _, _, _, _⟩) rfl (fun K hK => ?_) AllReadyH.nil
      refine stepSl (w0 := w) rfl _ _ rfl w.heap.size _ ([] ++ z.take k) (z.drop (k + 1)) (if c = k + 1 then some ad else some (ad.add (k + 1))) (z.length - (k + 1)) (c - (k + 1)) rfl rfl T2.out hs1 (hA2.out _ hb1) hb1 (Nat.le_refl _) (by have := T1.out; simp; omega) ?_
      intro v2 w2 hs2 hb2
      refine hK.out _ _ ?_ (fun hHeld => ?_)
      · (try dsimp only)
        first | done | trivial
      clear hK K
      (try simp only [Act.put, List.setIfInBounds_toArray, List.set_cons_zero, List.set_cons_succ])
      first
        | (refine wpAnyH_take (i := 10) (oi := ⟨(some 4), _, _, _, _, _⟩) (v := ?_) rfl (by kernel_rfl) (by kernel_rfl) (by kernel_rfl) (fun _ _ _ h => h) (Or.inl ⟨by rfl, ?_⟩) (by assumption) ?_; rotate_left; (focus (intro ww hSw; (try dsimp only at hSw); go_simp; (try with_reducible rfl))))
        | (refine wpAnyH_take (i := 10) (oi := ⟨(some 4), _, _, _, _, _⟩) (v := undef) rfl (by kernel_rfl) (by kernel_rfl) (by kernel_rfl) (fun _ _ _ h => h) (Or.inr ⟨by rfl, rfl⟩) (by assumption) ?_)
      (try simp only [Act.put, List.setIfInBounds_toArray, List.set_cons_zero, List.set_cons_succ])
      first
        | (refine wpAnyH_take (i := 11) (oi := ⟨(some 5), _, _, _, _, _⟩) (v := ?_) rfl (by kernel_rfl) (by kernel_rfl) (by kernel_rfl) (fun _ _ _ h => h) (Or.inl ⟨by rfl, ?_⟩) (by assumption) ?_; rotate_left; (focus (intro ww hSw; (try dsimp only at hSw); go_simp; (try with_reducible rfl))))
        | (refine wpAnyH_take (i := 11) (oi := ⟨(some 5), _, _, _, _, _⟩) (v := undef) rfl (by kernel_rfl) (by kernel_rfl) (by kernel_rfl) (fun _ _ _ h => h) (Or.inr ⟨by rfl, rfl⟩) (by assumption) ?_)
      (try simp only [Act.put, List.setIfInBounds_toArray, List.set_cons_zero, List.set_cons_succ])
      refine wpAnyH_done (by kernel_rfl) ?_ _
      rw [List.nil_append, ← HE.out] at hs2
      go_wp2
      all_goals (go_ret2; exact RetLB.mk hs2 hb2)
    · have e : wcOK z x 0 = false := by
        unfold wcOK
        by_cases h0 : 0 ≤ x
        · rw [decide_eq_false (show ¬ x < (z.length : Int) by omega), Bool.and_false]; rfl
        · rw [decide_eq_false h0, Bool.and_false]; rfl
      rw [inB_no h01] at HIN
      rw [wc_no e, e]
      go_enter Try.func25, Try.ntmps25
      go_wp2_with fail
      refine (HV.out).mono ?_
      rintro e w' ⟨rfl, rfl⟩
      go_wp2_with fail
      refine (HIN.out _).mono ?_
      rintro e w' ⟨rfl, rfl⟩
      go_wp2
      go_ret2
      exact RetLB.mk sl_empty ((Below.refl _ _).alloc (Nat.le_refl _) _)
set_option maxHeartbeats 4000000 in
theorem repS5_any (A : Option Addr) (c : Nat) (z : List Int) (x : Int) (w : World) (hr : Reads w w.heap.size A z) (hcap : z.length ≤ c) (hl : z.length ≤ 1048576) :
    Calls Try.prog 23 #[.slice A z.length c, .int .i64 x] w (RetLB (wcL z x 2) (wcOK z x 2) w) := by
  have HV := Lib.hid (sigS_any A c z w hr hl)
  cases hv : sigOK z
  · rw [hv] at HV
    have e : wcOK z x 2 = false := by unfold wcOK; rw [hv]; rfl
    rw [wc_no e, e]
    go_enter Try.func23, Try.ntmps23
    go_wp2_with fail
    refine (HV.out).mono ?_
    rintro e w' ⟨rfl, rfl⟩
    go_wp2
    go_ret2
    exact RetLB.mk sl_empty ((Below.refl _ _).alloc (Nat.le_refl _) _)
  · rw [hv] at HV
    have HIN := Lib.hid (fun u : World => l1In_any x 0 ((z.length : Int) - 1) u)
    by_cases h01 : 0 ≤ x ∧ x ≤ (z.length : Int) - 1
    · rw [inB_yes h01.1 h01.2] at HIN
      obtain ⟨k, rfl⟩ : ∃ k : Nat, x = (k : Int) := ⟨x.toNat, by omega⟩
      have hk : k < z.length := by omega
      have hz3 := sig_len hv
      have e : wcOK z (k : Int) 2 = sigOK (copyL z k 2) := by unfold wcOK; rw [hv, decide_eq_true (show (0 : Int) ≤ (k : Int) by omega), decide_eq_true (show (k : Int) < (z.length : Int) by omega), Int.toNat_natCast]; rfl
      have HE : Hid (z.take (k + 1) ++ z.drop k = copyL z k 2) := Lib.hid (rep_split hk)
      have e2 : wcL z (k : Int) 2 = okL (copyL z k 2) := by unfold wcL okL; rw [e, Int.toNat_natCast]
      have HCP : Hid ((copyL z k 2).length ≤ 1048576) := Lib.hid (by rw [copy_len hk]; omega)
      rw [e2, e]
      obtain ⟨ad, rfl, hadb, hcell⟩ := hr (by omega)
      have HCL := Lib.hid hcell
      have hA1 : Hid (∀ u, Below w.heap.size w u → ∃ ad', (some ad : Option Addr) = some ad' ∧ ∀ i, i < (z.take (k + 1)).length → u.cell? (ad'.add i) = some (.int .i64 ((z.take (k + 1)).getD i 0))) := Lib.hid fun u hb => ⟨ad, rfl, fun i hi => by
        have hi2 : i < k + 1 := by simp at hi; omega
        rw [hb.cell (by rw [add_blk]; exact hadb), HCL.out _ (by omega)]
        simp [List.getD_eq_getElem?_getD, List.getElem?_take, hi2]⟩
      have hA2 : Hid (∀ u, Below w.heap.size w u → ∃ ad', (if c = k then some ad else some (ad.add k)) = some ad' ∧ ∀ i, i < (z.drop k).length → u.cell? (ad'.add i) = some (.int .i64 ((z.drop k).getD i 0))) := Lib.hid fun u hb => by
        refine ⟨ad.add k, if_neg (by omega), fun i hi => ?_⟩
        rw [List.length_drop] at hi
        rw [add_of_add, hb.cell (by rw [add_blk]; exact hadb), HCL.out _ (by omega)]
        simp [List.getD_eq_getElem?_getD]
      have t1 : (z.take (k + 1)).length = k + 1 := by simp; omega
      have t2 : (z.drop k).length = z.length - k := List.length_drop
      have T1 := Lib.hid t1
      have T2 := Lib.hid t2
      have q0 : (0 : Int) ≤ (k : Int) := by omega
      have q1 : (k : Int) ≤ (c : Int) := by omega
      have q2 : IntKind.i64.wrap ((k : Int) + 1) = (k : Int) + 1 := IntWalk.i64_in _ (by omega)
      have q3 : (k : Int) ≤ (z.length : Int) := by omega
      have q6 : (k : Int) + 1 ≤ (c : Int) := by omega
      have q4 : (z.length : Int) ≤ (c : Int) := by omega
      have q5 : (0 : Int) ≤ (k : Int) + 1 := by omega
      clear hr hcell e e2 hv t1 t2
      go_enter Try.func23, Try.ntmps23
      go_wp2_with fail
      refine (HV.out).mono ?_
      rintro e w' ⟨rfl, rfl⟩
      go_wp2_with fail
      refine (HIN.out _).mono ?_
      rintro e w' ⟨rfl, rfl⟩
      go_wp2
      refine wp_region_held_drew (S := (fun _ => True)) (by kernel_rfl) ?_ (fun hHeld => ?_)
      · (try dsimp only)
        first | done | trivial
      first
        | (refine wpAnyH_take (i := 1) (oi := ⟨(some 19), _, _, _, _, _⟩) (v := ?_) rfl (by kernel_rfl) (by kernel_rfl) (by kernel_rfl) (fun _ _ _ h => h) (Or.inl ⟨by rfl, ?_⟩) (by assumption) ?_; rotate_left; (focus (intro ww hSw; (try dsimp only at hSw); go_simp; (try with_reducible rfl))))
        | (refine wpAnyH_take (i := 1) (oi := ⟨(some 19), _, _, _, _, _⟩) (v := undef) rfl (by kernel_rfl) (by kernel_rfl) (by kernel_rfl) (fun _ _ _ h => h) (Or.inr ⟨by rfl, rfl⟩) (by assumption) ?_)
      (try simp only [Act.put, List.setIfInBounds_toArray, List.set_cons_zero, List.set_cons_succ])
      first
        | (refine wpAnyH_take (i := 2) (oi := ⟨(some 20), _, _, _, _, _⟩) (v := ?_) rfl (by kernel_rfl) (by kernel_rfl) (by kernel_rfl) (fun _ _ _ h => h) (Or.inl ⟨by rfl, ?_⟩) (by assumption) ?_; rotate_left; (focus (intro ww hSw; (try dsimp only at hSw); go_simp; (try with_reducible rfl))))
        | (refine wpAnyH_take (i := 2) (oi := ⟨(some 20), _, _, _, _, _⟩) (v := undef) rfl (by kernel_rfl) (by kernel_rfl) (by kernel_rfl) (fun _ _ _ h => h) (Or.inr ⟨by rfl, rfl⟩) (by assumption) ?_)
      (try simp only [Act.put, List.setIfInBounds_toArray, List.set_cons_zero, List.set_cons_succ])
      first
        | (refine wpAnyH_take (i := 3) (oi := ⟨(some 21), _, _, _, _, _⟩) (v := ?_) rfl (by kernel_rfl) (by kernel_rfl) (by kernel_rfl) (fun _ _ _ h => h) (Or.inl ⟨by rfl, ?_⟩) (by assumption) ?_; rotate_left; (focus (intro ww hSw; (try dsimp only at hSw); go_simp; (try with_reducible rfl))))
        | (refine wpAnyH_take (i := 3) (oi := ⟨(some 21), _, _, _, _, _⟩) (v := undef) rfl (by kernel_rfl) (by kernel_rfl) (by kernel_rfl) (fun _ _ _ h => h) (Or.inr ⟨by rfl, rfl⟩) (by assumption) ?_)
      (try simp only [Act.put, List.setIfInBounds_toArray, List.set_cons_zero, List.set_cons_succ])
      first
        | (refine wpAnyH_take (i := 4) (oi := ⟨(some 22), _, _, _, _, _⟩) (v := ?_) rfl (by kernel_rfl) (by kernel_rfl) (by kernel_rfl) (fun _ _ _ h => h) (Or.inl ⟨by rfl, ?_⟩) (by assumption) ?_; rotate_left; (focus (intro ww hSw; (try dsimp only at hSw); go_simp; (try with_reducible rfl))))
        | (refine wpAnyH_take (i := 4) (oi := ⟨(some 22), _, _, _, _, _⟩) (v := undef) rfl (by kernel_rfl) (by kernel_rfl) (by kernel_rfl) (fun _ _ _ h => h) (Or.inr ⟨by rfl, rfl⟩) (by assumption) ?_)
      (try simp only [Act.put, List.setIfInBounds_toArray, List.set_cons_zero, List.set_cons_succ])
      first
        | (refine wpAnyH_take (i := 6) (oi := ⟨(some 24), _, _, _, _, _⟩) (v := ?_) rfl (by kernel_rfl) (by kernel_rfl) (by kernel_rfl) (fun _ _ _ h => h) (Or.inl ⟨by rfl, ?_⟩) (by assumption) ?_; rotate_left; (focus (intro ww hSw; (try dsimp only at hSw); go_simp; (try with_reducible rfl))))
        | (refine wpAnyH_take (i := 6) (oi := ⟨(some 24), _, _, _, _, _⟩) (v := undef) rfl (by kernel_rfl) (by kernel_rfl) (by kernel_rfl) (fun _ _ _ h => h) (Or.inr ⟨by rfl, rfl⟩) (by assumption) ?_)
      (try simp only [Act.put, List.setIfInBounds_toArray, List.set_cons_zero, List.set_cons_succ])
      first
        | (refine wpAnyH_take (i := 7) (oi := ⟨(some 25), _, _, _, _, _⟩) (v := ?_) rfl (by kernel_rfl) (by kernel_rfl) (by kernel_rfl) (fun _ _ _ h => h) (Or.inl ⟨by rfl, ?_⟩) (by assumption) ?_; rotate_left; (focus (intro ww hSw; (try dsimp only at hSw); go_simp; (try with_reducible rfl))))
        | (refine wpAnyH_take (i := 7) (oi := ⟨(some 25), _, _, _, _, _⟩) (v := undef) rfl (by kernel_rfl) (by kernel_rfl) (by kernel_rfl) (fun _ _ _ h => h) (Or.inr ⟨by rfl, rfl⟩) (by assumption) ?_)
      (try simp only [Act.put, List.setIfInBounds_toArray, List.set_cons_zero, List.set_cons_succ])
      first
        | (refine wpAnyH_take (i := 8) (oi := ⟨(some 26), _, _, _, _, _⟩) (v := ?_) rfl (by kernel_rfl) (by kernel_rfl) (by kernel_rfl) (fun _ _ _ h => h) (Or.inl ⟨by rfl, ?_⟩) (by assumption) ?_; rotate_left; (focus (intro ww hSw; (try dsimp only at hSw); go_simp; (try with_reducible rfl))))
        | (refine wpAnyH_take (i := 8) (oi := ⟨(some 26), _, _, _, _, _⟩) (v := undef) rfl (by kernel_rfl) (by kernel_rfl) (by kernel_rfl) (fun _ _ _ h => h) (Or.inr ⟨by rfl, rfl⟩) (by assumption) ?_)
      (try simp only [Act.put, List.setIfInBounds_toArray, List.set_cons_zero, List.set_cons_succ])
      refine wpAnyH_ready (rs := [0]) (by kernel_rfl) (by simp) ?_
      refine AllReadyH.cons (o := ⟨(some 18), _, _, _, _, _⟩) rfl (fun K hK => ?_) AllReadyH.nil
      go_simp
      refine hK.out _ _ ?_ (fun hHeld => ?_)
      · (try dsimp only)
        first | done | trivial
      clear hK K
      (try simp only [Act.put, List.setIfInBounds_toArray, List.set_cons_zero, List.set_cons_succ])
      refine wpAnyH_ready (rs := [5]) (by kernel_rfl) (by simp) ?_
      refine AllReadyH.cons (o := ⟨(some 23), _, _, _, _, _⟩) rfl (fun K hK => ?_) AllReadyH.nil
      refine stepSl (w0 := w) rfl _ _ rfl w.heap.size _ [] (z.take (k + 1)) (some ad) (k + 1) c rfl rfl T1.out (sl_empty (w := w.drew)) (hA1.out _ ((Below.refl w.heap.size w).drew.alloc (Nat.le_refl _) _)) ((Below.refl w.heap.size w).drew.alloc (Nat.le_refl _) _) (Nat.le_refl _) (by have := T1.out; simp; omega) ?_
      intro v1 w1 hs1 hb1
      refine hK.out _ _ ?_ (fun hHeld => ?_)
      · (try dsimp only)
        first | done | trivial
      clear hK K
      (try simp only [Act.put, List.setIfInBounds_toArray, List.set_cons_zero, List.set_cons_succ])
      refine wpAnyH_ready (rs := [9]) (by kernel_rfl) (by simp) ?_
      refine AllReadyH.cons (o := ⟨(some 27), _, _, _, _, _⟩) rfl (fun K hK => ?_) AllReadyH.nil
      refine stepSl (w0 := w) rfl _ _ rfl w.heap.size _ ([] ++ z.take (k + 1)) (z.drop k) (if c = k then some ad else some (ad.add k)) (z.length - k) (c - k) rfl rfl T2.out hs1 (hA2.out _ hb1) hb1 (Nat.le_refl _) (by have := T1.out; simp; omega) ?_
      intro v2 w2 hs2 hb2
      rw [List.nil_append, HE.out] at hs2
      refine hK.out _ _ ?_ (fun hHeld => ?_)
      · (try dsimp only)
        first | done | trivial
      clear hK K
      (try simp only [Act.put, List.setIfInBounds_toArray, List.set_cons_zero, List.set_cons_succ])
      refine wpAnyH_ready (rs := [10]) (by kernel_rfl) (by simp) ?_
      refine AllReadyH.cons (o := ⟨(some 28), _, _, _, _, _⟩) rfl (fun K hK => ?_) AllReadyH.nil
      go_simp
      refine (l4Res_any hs2 hb2.size HCP.out).mono ?_
      rintro e w3 ⟨v3, rfl, hs4, hb4⟩
      go_wp2_with fail
      refine hK.out _ _ ?_ (fun hHeld => ?_)
      · (try dsimp only)
        first | done | trivial
      clear hK K
      (try simp only [Act.put, List.setIfInBounds_toArray, List.set_cons_zero, List.set_cons_succ])
      first
        | (refine wpAnyH_take (i := 11) (oi := ⟨(some 29), _, _, _, _, _⟩) (v := ?_) rfl (by kernel_rfl) (by kernel_rfl) (by kernel_rfl) (fun _ _ _ h => h) (Or.inl ⟨by rfl, ?_⟩) (by assumption) ?_; rotate_left; (focus (intro ww hSw; (try dsimp only at hSw); go_simp; (try with_reducible rfl))))
        | (refine wpAnyH_take (i := 11) (oi := ⟨(some 29), _, _, _, _, _⟩) (v := undef) rfl (by kernel_rfl) (by kernel_rfl) (by kernel_rfl) (fun _ _ _ h => h) (Or.inr ⟨by rfl, rfl⟩) (by assumption) ?_)
      (try simp only [Act.put, List.setIfInBounds_toArray, List.set_cons_zero, List.set_cons_succ])
      first
        | (refine wpAnyH_take (i := 12) (oi := ⟨(some 30), _, _, _, _, _⟩) (v := ?_) rfl (by kernel_rfl) (by kernel_rfl) (by kernel_rfl) (fun _ _ _ h => h) (Or.inl ⟨by rfl, ?_⟩) (by assumption) ?_; rotate_left; (focus (intro ww hSw; (try dsimp only at hSw); go_simp; (try with_reducible rfl))))
        | (refine wpAnyH_take (i := 12) (oi := ⟨(some 30), _, _, _, _, _⟩) (v := undef) rfl (by kernel_rfl) (by kernel_rfl) (by kernel_rfl) (fun _ _ _ h => h) (Or.inr ⟨by rfl, rfl⟩) (by assumption) ?_)
      (try simp only [Act.put, List.setIfInBounds_toArray, List.set_cons_zero, List.set_cons_succ])
      first
        | (refine wpAnyH_take (i := 13) (oi := ⟨(some 4), _, _, _, _, _⟩) (v := ?_) rfl (by kernel_rfl) (by kernel_rfl) (by kernel_rfl) (fun _ _ _ h => h) (Or.inl ⟨by rfl, ?_⟩) (by assumption) ?_; rotate_left; (focus (intro ww hSw; (try dsimp only at hSw); go_simp; (try with_reducible rfl))))
        | (refine wpAnyH_take (i := 13) (oi := ⟨(some 4), _, _, _, _, _⟩) (v := undef) rfl (by kernel_rfl) (by kernel_rfl) (by kernel_rfl) (fun _ _ _ h => h) (Or.inr ⟨by rfl, rfl⟩) (by assumption) ?_)
      (try simp only [Act.put, List.setIfInBounds_toArray, List.set_cons_zero, List.set_cons_succ])
      first
        | (refine wpAnyH_take (i := 14) (oi := ⟨(some 5), _, _, _, _, _⟩) (v := ?_) rfl (by kernel_rfl) (by kernel_rfl) (by kernel_rfl) (fun _ _ _ h => h) (Or.inl ⟨by rfl, ?_⟩) (by assumption) ?_; rotate_left; (focus (intro ww hSw; (try dsimp only at hSw); go_simp; (try with_reducible rfl))))
        | (refine wpAnyH_take (i := 14) (oi := ⟨(some 5), _, _, _, _, _⟩) (v := undef) rfl (by kernel_rfl) (by kernel_rfl) (by kernel_rfl) (fun _ _ _ h => h) (Or.inr ⟨by rfl, rfl⟩) (by assumption) ?_)
      (try simp only [Act.put, List.setIfInBounds_toArray, List.set_cons_zero, List.set_cons_succ])
      refine wpAnyH_done (by kernel_rfl) ?_ _
      go_wp2
      all_goals (go_ret2; exact RetLB.mk hs4 (hb2.trans (hb4.mono hb2.size)))
    · have e : wcOK z x 2 = false := by
        unfold wcOK
        by_cases h0 : 0 ≤ x
        · rw [decide_eq_false (show ¬ x < (z.length : Int) by omega), Bool.and_false]; rfl
        · rw [decide_eq_false h0, Bool.and_false]; rfl
      rw [inB_no h01] at HIN
      rw [wc_no e, e]
      go_enter Try.func23, Try.ntmps23
      go_wp2_with fail
      refine (HV.out).mono ?_
      rintro e w' ⟨rfl, rfl⟩
      go_wp2_with fail
      refine (HIN.out _).mono ?_
      rintro e w' ⟨rfl, rfl⟩
      go_wp2
      go_ret2
      exact RetLB.mk sl_empty ((Below.refl _ _).alloc (Nat.le_refl _) _)
end Go.Proofs.Ytholipfekecloaa
