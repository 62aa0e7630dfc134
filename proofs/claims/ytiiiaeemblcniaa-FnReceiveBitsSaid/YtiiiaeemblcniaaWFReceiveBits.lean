/- The walk of the law FnReceiveBits: received bits are the signs of the correlations behind the delay, also if the delay is taken twice. -/
import Derived.Test.YtiiiaeemblcniaaDrawHe
import Derived.Test.YtiiiaeemblcniaaRakeI
import Derived.Deep.QuietTactic
import Derived.BigQuiet
namespace Go.Proofs.Ytiiiaeemblcniaa.fnReceiveBits
set_option maxRecDepth 20000
open Go.ChangeShapes Go.WideShapes Go.ChangeAt Go.RowKit
set_option linter.unusedVariables false
set_option linter.unusedSimpArgs false

theorem reads_up4 {w u : World} {A : Option Addr} {z : List Int} (h : Reads w w.heap.size A z) (hu : Below w.heap.size w u) : Reads u u.heap.size A z := (h.below hu (Nat.le_refl _)).more hu.size
theorem sig_drop {z : List Int} (k : Nat) (h : sigOK z = true) : sigOK (z.drop k) = true := by
  unfold sigOK at h ⊢
  simp only [Bool.and_eq_true, decide_eq_true_eq, List.all_eq_true] at h ⊢
  exact ⟨by rw [List.length_drop]; omega, fun x hx => h.2 x (List.mem_of_mem_drop hx)⟩
theorem dots_drop (z : List Int) (l : List UInt8) (X n : Nat) : dots (z.drop X) l 0 n = dots z l X n := by
  unfold dots
  apply List.map_congr_left
  intro i _
  rw [dot_drop]
  congr 1
  omega
theorem reads_two {u : World} (x y : Int) : Reads (u.alloc (.cells #[.int .i64 x, .int .i64 y] 3)) (u.alloc (.cells #[.int .i64 x, .int .i64 y] 3)).heap.size (some ⟨u.heap.size, 0, none⟩) [x, y] := fun _ =>
  ⟨_, rfl, by simp, fun j hj => by
    match j, hj with
    | 0, _ => simp [Addr.add]
    | 1, _ => simp [Addr.add]⟩

set_option maxHeartbeats 16000000 in
theorem walk (a0 : Option Addr) (len0 cap0 : Nat) (z0 : List Int) (w : World) (hw0 : IsRow .u8 w a0 len0 cap0 z0) :
    Calls Try.prog 3 #[.slice a0 len0 cap0] w fun e w' => e = .returned (.bool true) ∧ Below w.heap.size w w' := by
  by_cases hlen : len0 ≤ 1048576
  rotate_left
  · go_enter Try.func3, Try.ntmps3
    go_wp2
    go_ret
    exact ⟨rfl, Below.refl _ _⟩
  go_enter Try.func3, Try.ntmps3
  go_wp2_with fail
  refine (drawRcv_any _ _ _ _ _ hw0).mono ?_
  rintro e w1 ⟨v, z, l, x, n, rfl, ⟨hsl, hzl⟩, ⟨hl, hx, hn⟩, hb1⟩
  clear hw0
  obtain ⟨A, c, rfl, hr, hzc⟩ := hsl.reads
  have zl := str_size l
  have hm : (str l).size ≤ maxLen := by unfold maxLen; omega
  have hz6 : z.length ≤ 1048576 := by omega
  have HR := Lib.hid hr
  have HSI : Hid (∀ u : World, Below w1.heap.size w1 u → Calls Try.prog 9 #[.slice A z.length c, .string (str l), .int .i64 x, .int .i64 n] u fun e w' => e = .returned (strRes (rcvO z (str l) x n)) ∧ Below u.heap.size u w') := fun u hu => rcvI_any A c z (str l) x n u (reads_up4 hr hu) hz6 hm
  have HSS : Hid (∀ u : World, Below w1.heap.size w1 u → Calls Try.prog 10 #[.slice A z.length c, .string (str l), .int .i64 x, .int .i64 n] u fun e w' => e = .returned (strRes (rcvO z (str l) x n)) ∧ Below u.heap.size u w') := fun u hu => rcvS_any A c z (str l) x n u (reads_up4 hr hu) hz6 hm
  have hb := Below.refl w1.heap.size w1
  have HB1 := Lib.hid hb1
  have hs1 := hb1.size
  clear hsl hr hb1
  cases hls : lsOK z (str l) x n with
  | false =>
    rw [rcv_no hls] at HSI HSS
    change Hid (∀ u : World, _ → Calls _ _ _ u fun e w' => e = .returned (.tuple #[.string ⟨#[]⟩, .bool false]) ∧ _) at HSI
    change Hid (∀ u : World, _ → Calls _ _ _ u fun e w' => e = .returned (.tuple #[.string ⟨#[]⟩, .bool false]) ∧ _) at HSS
    go_wp2_with fail
    refine (HSI.out _ hb).mono ?_
    rintro e w2 ⟨rfl, k2⟩
    replace hb := below_next hb k2
    clear k2
    go_wp2_with fail
    refine (HSS.out _ hb).mono ?_
    rintro e w3 ⟨rfl, k3⟩
    replace hb := below_next hb k3
    clear k3
    go_wp2
    go_ret
    exact ⟨rfl, HB1.out.trans (hb.mono hs1)⟩
  | true =>
    obtain ⟨hz, hq, X, N, rfl, rfl, hX, hN⟩ := ls_parts hls
    rw [rcv_yes hls] at HSI HSS
    have hBl : (signs (dots z (str l).data.toList X N)).length = N := by rw [signs_len, dots_len]
    have HDL : Hid (∀ j, j < N → (signs (dots z (str l).data.toList X N)).getD j 0 = signB ((dots z (str l).data.toList X N).getD j 0)) := fun j hj => signs_getD _ (by rw [dots_len]; exact hj)
    have hdl := dots_len z (str l).data.toList X N
    have HRK : Hid (∀ (u : World), Below w1.heap.size w1 u → Calls Try.prog 12 #[.slice A z.length c, .string (str l), .slice (some ⟨u.heap.size, 0, none⟩) 2 2, .int .i64 (N : Int)] (u.alloc (.cells #[.int .i64 (X : Int), .int .i64 (X : Int)] 3)) fun e w' => e = .returned (.tuple #[.string (str (signs (dots z (str l).data.toList X N))), .bool true]) ∧ Below u.heap.size u w') := fun u hu => by
      have hu2 : Below w1.heap.size w1 (u.alloc (.cells #[.int .i64 (X : Int), .int .i64 (X : Int)] 3)) := hu.alloc hu.size _
      have h := rkI_any A (some ⟨u.heap.size, 0, none⟩) c 2 z [(X : Int), (X : Int)] (str l) (N : Int) _ (reads_up4 HR.out hu2) (reads_two _ _) hz6 (by simp) hm
      rw [(rkO_two hls).1, rcv_yes hls] at h
      exact h.mono fun e w' ⟨h1, h2⟩ => ⟨h1, below_out h2⟩
    have HDS : Hid (∀ (A' : Option Addr) (c' k : Nat) (u : World), k = z.length - X → Reads u u.heap.size A' (z.drop X) → Calls Try.prog 11 #[.slice A' k c', .string (str l), .int .i64 (N : Int)] u (RetLB (dots z (str l).data.toList X N) true u)) := fun A' c' k u hk hr => by
      have h := desI_any A' c' (z.drop X) (str l) (N : Int) u hr (by rw [List.length_drop]; omega) hm
      have e : lsOK (z.drop X) (str l) 0 (N : Int) = true := by
        unfold lsOK
        rw [sig_drop X hz, hq, inB_yes (Int.le_refl 0) (by omega), inB_yes (by omega) (by omega)]; rfl
      rw [dsL_yes e, e, dots_drop, List.length_drop, ← hk] at h
      exact h
    obtain ⟨DL, hDL⟩ : ∃ DL, DL = dots z (str l).data.toList X N := ⟨_, rfl⟩
    rw [← hDL] at HSI HSS hBl HDL hdl HRK HDS
    obtain ⟨B, hB⟩ : ∃ B, B = signs DL := ⟨_, rfl⟩
    rw [← hB] at HSI HSS hBl HDL HRK
    change Hid (∀ u : World, _ → Calls _ _ _ u fun e w' => e = .returned (.tuple #[.string (str B), .bool true]) ∧ _) at HSI
    change Hid (∀ u : World, _ → Calls _ _ _ u fun e w' => e = .returned (.tuple #[.string (str B), .bool true]) ∧ _) at HSS
    have zB : (str B).size = N := by rw [str_size, hBl]
    have HG : Hid (∀ k (h : k < (str B).size), (str B)[k] = B.getD k 0) := Lib.hid fun k h => str_get B k h
    have HZ3 := sig_len hz
    have HDN := Lib.hid hdl
    clear hls hz hq hDL hB hBl hdl
    go_wp2_with fail
    refine (HSI.out _ hb).mono ?_
    rintro e w2 ⟨rfl, k2⟩
    replace hb := below_next hb k2
    clear k2
    go_wp2_with fail
    refine (HSS.out _ hb).mono ?_
    rintro e w3 ⟨rfl, k3⟩
    replace hb := below_next hb k3
    clear k3
    by_cases hN60 : 60 < N
    · go_wp2
      go_ret
      exact ⟨rfl, HB1.out.trans (hb.mono hs1)⟩
    have hb4 := hb.alloc hb.size (.cells #[] 3)
    by_cases hXz : X < z.length
    · have hRD := (reads_up4 HR.out hb4).cut (k := X) (cap := c) (by omega) hzc
      rw [if_neg (by omega)] at hRD
      have hDS := Lib.hid (HDS.out _ (c - X) _ _ rfl hRD)
      have HB4 := Lib.hid hb4
      clear hRD hb hb4
      go_wp2_with fail
      refine hDS.out.mono ?_
      rintro e w4 ⟨v4, rfl, hs4, k4⟩
      have hb5 := HB4.out.trans (k4.mono HB4.out.size)
      obtain ⟨A4, c4, rfl, _, _⟩ := hs4.reads
      rw [HDN.out] at hs4 ⊢
      have HS4 := Lib.hid hs4
      clear hs4 k4 hDS
      have hRK := Lib.hid (HRK.out w4 hb5)
      have HB5 := Lib.hid hb5
      clear hb5
      go_wp2_with fail
      refine hRK.out.mono ?_
      rintro e w5 ⟨rfl, k5⟩
      have hb6 := HB5.out.trans (k5.mono HB5.out.size)
      have HS5 := Lib.hid (HS4.out.below k5 (Nat.le_refl _))
      clear k5 hRK
      go_wp2
      go_loopw [16] (fun i wr => ∃ k : Nat, k ≤ N ∧ i = .int .i64 (k : Int) ∧ wr.heap = w5.heap ∧ Below w1.heap.size w1 wr) (fun i _ => N - (intOf i).toNat)
      case atStart => exact ⟨0, Nat.zero_le _, rfl, rfl, hb6⟩
      case round =>
        clear hb6
        obtain ⟨k, hk, rfl, hh, hb⟩ := hrel
        have HH := Lib.hid hh
        have HB6 := Lib.hid hb
        clear hh hb
        by_cases hlt : k < N
        · obtain ⟨ad, rfl, hcell⟩ := HS5.out.at_ (k := k) (by rw [HDN.out]; exact hlt)
          have hc : wr.cell? (ad.add k) = some (.int .i64 (DL.getD k 0)) := by
            have e : wr.cell? (ad.add k) = w5.cell? (ad.add k) := by simp only [World.cell?, HH.out]
            rw [e]; exact hcell
          have hgl := HG.out k (by omega)
          have hkB : k < (str B).size := by omega
          rw [HDL.out k hlt] at hgl
          obtain ⟨y, hy⟩ : ∃ y, y = DL.getD k 0 := ⟨_, rfl⟩
          rw [← hy] at hc hgl
          clear hcell hy
          by_cases hy0 : y < 0
          · have e49 : signB y = 49 := if_pos hy0
            rw [e49] at hgl
            clear e49
            go_wp2
            refine wp_region_still_lit (by kernel_rfl) (by kernel_rfl) ?_
            repeat (refine wpStill_step (fun K hK => ?_); (try go_simp); (try simp only [IntWalk.iteOmega]); (try go_ints); (try simp (disch := omega) only [dif_pos]); (try go_simp); refine hK _ ?_; clear hK K)
            refine wpStill_nil ?_
            go_wp2
            go_roundw
            case rel => exact ⟨k + 1, by omega, by go_num, HH.out, HB6.out.drew⟩
            case measure => simp [intOf]; omega
          · have e48 : signB y = 48 := if_neg hy0
            rw [e48] at hgl
            clear e48
            go_wp2
            refine wp_region_still_lit (by kernel_rfl) (by kernel_rfl) ?_
            repeat (refine wpStill_step (fun K hK => ?_); (try go_simp); (try simp only [IntWalk.iteOmega]); (try go_ints); (try simp (disch := omega) only [dif_pos]); (try go_simp); refine hK _ ?_; clear hK K)
            refine wpStill_nil ?_
            go_wp2
            go_roundw
            case rel => exact ⟨k + 1, by omega, by go_num, HH.out, HB6.out.drew⟩
            case measure => simp [intOf]; omega
        · obtain rfl : k = N := by omega
          go_wp2
          go_ret
          exact ⟨rfl, HB1.out.trans (HB6.out.mono hs1)⟩
    · have hRD : Reads (w3.alloc (.cells #[] 3)) (w3.alloc (.cells #[] 3)).heap.size (some ⟨w3.heap.size, 0, none⟩) (z.drop X) := fun h => by rw [List.length_drop] at h; omega
      have hDS := Lib.hid (HDS.out (some ⟨w3.heap.size, 0, none⟩) 0 0 _ (by omega) hRD)
      have HB4 := Lib.hid hb4
      clear hRD hb hb4
      go_wp2_with fail
      refine hDS.out.mono ?_
      rintro e w4 ⟨v4, rfl, hs4, k4⟩
      have hb5 := HB4.out.trans (k4.mono HB4.out.size)
      obtain ⟨A4, c4, rfl, _, _⟩ := hs4.reads
      rw [HDN.out] at hs4 ⊢
      have HS4 := Lib.hid hs4
      clear hs4 k4 hDS
      have hRK := Lib.hid (HRK.out w4 hb5)
      have HB5 := Lib.hid hb5
      clear hb5
      go_wp2_with fail
      refine hRK.out.mono ?_
      rintro e w5 ⟨rfl, k5⟩
      have hb6 := HB5.out.trans (k5.mono HB5.out.size)
      have HS5 := Lib.hid (HS4.out.below k5 (Nat.le_refl _))
      clear k5 hRK
      go_wp2
      go_loopw [16] (fun i wr => ∃ k : Nat, k ≤ N ∧ i = .int .i64 (k : Int) ∧ wr.heap = w5.heap ∧ Below w1.heap.size w1 wr) (fun i _ => N - (intOf i).toNat)
      case atStart => exact ⟨0, Nat.zero_le _, rfl, rfl, hb6⟩
      case round =>
        clear hb6
        obtain ⟨k, hk, rfl, hh, hb⟩ := hrel
        have HH := Lib.hid hh
        have HB6 := Lib.hid hb
        clear hh hb
        by_cases hlt : k < N
        · obtain ⟨ad, rfl, hcell⟩ := HS5.out.at_ (k := k) (by rw [HDN.out]; exact hlt)
          have hc : wr.cell? (ad.add k) = some (.int .i64 (DL.getD k 0)) := by
            have e : wr.cell? (ad.add k) = w5.cell? (ad.add k) := by simp only [World.cell?, HH.out]
            rw [e]; exact hcell
          have hgl := HG.out k (by omega)
          have hkB : k < (str B).size := by omega
          rw [HDL.out k hlt] at hgl
          obtain ⟨y, hy⟩ : ∃ y, y = DL.getD k 0 := ⟨_, rfl⟩
          rw [← hy] at hc hgl
          clear hcell hy
          by_cases hy0 : y < 0
          · have e49 : signB y = 49 := if_pos hy0
            rw [e49] at hgl
            clear e49
            go_wp2
            refine wp_region_still_lit (by kernel_rfl) (by kernel_rfl) ?_
            repeat (refine wpStill_step (fun K hK => ?_); (try go_simp); (try simp only [IntWalk.iteOmega]); (try go_ints); (try simp (disch := omega) only [dif_pos]); (try go_simp); refine hK _ ?_; clear hK K)
            refine wpStill_nil ?_
            go_wp2
            go_roundw
            case rel => exact ⟨k + 1, by omega, by go_num, HH.out, HB6.out.drew⟩
            case measure => simp [intOf]; omega
          · have e48 : signB y = 48 := if_neg hy0
            rw [e48] at hgl
            clear e48
            go_wp2
            refine wp_region_still_lit (by kernel_rfl) (by kernel_rfl) ?_
            repeat (refine wpStill_step (fun K hK => ?_); (try go_simp); (try simp only [IntWalk.iteOmega]); (try go_ints); (try simp (disch := omega) only [dif_pos]); (try go_simp); refine hK _ ?_; clear hK K)
            refine wpStill_nil ?_
            go_wp2
            go_roundw
            case rel => exact ⟨k + 1, by omega, by go_num, HH.out, HB6.out.drew⟩
            case measure => simp [intOf]; omega
        · obtain rfl : k = N := by omega
          go_wp2
          go_ret
          exact ⟨rfl, HB1.out.trans (HB6.out.mono hs1)⟩
end Go.Proofs.Ytiiiaeemblcniaa.fnReceiveBits
