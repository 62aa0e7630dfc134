/- The walk of the law FnRake: the bits of a rake do not depend on the order of its delays, and with one delay they are those of this delay. -/
import Derived.Test.YtiiiaeemblcniaaDrawHe
import Derived.Test.YtiiiaeemblcniaaRakeI
import Derived.Test.YtiiiaeemblcniaaRakeS
import Derived.Test.YtiiiaeemblcniaaSsU
import Derived.Deep.QuietTactic
import Derived.BigQuiet
namespace Go.Proofs.Ytiiiaeemblcniaa.fnRake
set_option maxRecDepth 20000
open Go.ChangeShapes Go.WideShapes Go.ChangeAt Go.RowKit
set_option linter.unusedVariables false
set_option linter.unusedSimpArgs false

theorem reads_up4 {w u : World} {A : Option Addr} {z : List Int} (h : Reads w w.heap.size A z) (hu : Below w.heap.size w u) : Reads u u.heap.size A z := (h.below hu (Nat.le_refl _)).more hu.size
theorem drop_rev {ds : List Int} {j : Nat} (h : j < ds.length) : (ds.drop j).reverse = (ds.drop (j + 1)).reverse ++ [ds.getD j 0] := by
  rw [List.drop_eq_getElem_cons h, List.reverse_cons, List.getD_eq_getElem?_getD, List.getElem?_eq_getElem h]; rfl
theorem take_one {ds : List Int} (h : 1 ≤ ds.length) : ds.take 1 = [ds.getD 0 0] := by
  match ds, h with
  | x :: xs, _ => rfl

set_option maxHeartbeats 16000000 in
theorem walk (a0 : Option Addr) (len0 cap0 : Nat) (z0 : List Int) (w : World) (hw0 : IsRow .u8 w a0 len0 cap0 z0) :
    Calls Try.prog 4 #[.slice a0 len0 cap0] w fun e w' => e = .returned (.bool true) ∧ Below w.heap.size w w' := by
  by_cases hlen : len0 ≤ 1048576
  rotate_left
  · go_enter Try.func4, Try.ntmps4
    go_wp2
    go_ret
    exact ⟨rfl, Below.refl _ _⟩
  go_enter Try.func4, Try.ntmps4
  go_wp2_with fail
  refine (drawRak_any _ _ _ _ _ hw0).mono ?_
  rintro e w1 ⟨v, z, l, v2, ds, n, rfl, ⟨hsl, hzl⟩, ⟨hsd, hdl⟩, ⟨hl, hn⟩, hb1⟩
  clear hw0
  obtain ⟨A, c, rfl, hr, hzc⟩ := hsl.reads
  obtain ⟨D, cd, rfl, hrd, hdc⟩ := hsd.reads
  have zl := str_size l
  have hm : (str l).size ≤ maxLen := by unfold maxLen; omega
  have hz6 : z.length ≤ 1048576 := by omega
  have hd6 : ds.length ≤ 1048576 := by omega
  have HR := Lib.hid hr
  have HRD := Lib.hid hrd
  obtain ⟨M, hM⟩ : ∃ M, M = ds.length := ⟨_, rfl⟩
  have HSI : Hid (∀ u : World, Below w1.heap.size w1 u → Calls Try.prog 12 #[.slice A z.length c, .string (str l), .slice D M cd, .int .i64 n] u fun e w' => e = .returned (strRes (rkO z (str l) ds n)) ∧ Below u.heap.size u w') := fun u hu => by
    rw [hM]; exact rkI_any A D c cd z ds (str l) n u (reads_up4 hr hu) (reads_up4 hrd hu) hz6 hd6 hm
  have HSS : Hid (∀ u : World, Below w1.heap.size w1 u → Calls Try.prog 14 #[.slice A z.length c, .string (str l), .slice D M cd, .int .i64 n] u fun e w' => e = .returned (strRes (rkO z (str l) ds n)) ∧ Below u.heap.size u w') := fun u hu => by
    rw [hM]; exact rkS_any A D c cd z ds (str l) n u (reads_up4 hr hu) (reads_up4 hrd hu) hz6 hd6 hm
  have hb := Below.refl w1.heap.size w1
  have HB1 := Lib.hid hb1
  have hs1 := hb1.size
  have HM := Lib.hid hM
  rw [← hM] at hdl hdc ⊢
  clear hsl hsd hr hrd hb1 hM
  cases hls : rkOK z (str l) ds n with
  | false =>
    rw [rk_no hls] at HSI HSS
    change Hid (∀ u : World, _ → Calls _ _ _ u fun e w' => e = .returned (.tuple #[.string ⟨#[]⟩, .bool false]) ∧ _) at HSI
    change Hid (∀ u : World, _ → Calls _ _ _ u fun e w' => e = .returned (.tuple #[.string ⟨#[]⟩, .bool false]) ∧ _) at HSS
    go_wp2_with fail
    refine (HSI.out _ hb).mono ?_
    rintro e w2 ⟨rfl, k2⟩
    replace hb := below_next hb k2
    clear k2
    go_wp2_with fail
    refine (HSS.out _ hb).mono ?_
    rintro e w3 ⟨rfl, k3⟩
    replace hb := below_next hb k3
    clear k3
    go_wp2
    go_ret
    exact ⟨rfl, HB1.out.trans (hb.mono hs1)⟩
  | true =>
    obtain ⟨⟨hM1, hM8⟩, ⟨hn0, hn6⟩, hall⟩ := rk_parts hls
    obtain ⟨N, rfl⟩ : ∃ N : Nat, n = (N : Int) := ⟨n.toNat, by omega⟩
    have hN : N ≤ 600 := by omega
    rw [← HM.out] at hM1
    have hmem : ds.getD 0 0 ∈ ds := by rw [List.getD_eq_getElem?_getD, List.getElem?_eq_getElem (by rw [← HM.out]; omega)]; exact List.getElem_mem _
    have h0 := hall _ hmem
    obtain ⟨hz, hq, hx0, hx3⟩ := rv_parts h0
    obtain ⟨hone, hls1⟩ := rkO_one (n := (N : Int)) h0 hn0 hn6
    have HRK : Hid (∀ (A' : Option Addr) (c' : Nat) (u : World), Below w1.heap.size w1 u → Reads u u.heap.size A' ds.reverse → Calls Try.prog 12 #[.slice A z.length c, .string (str l), .slice A' M c', .int .i64 (N : Int)] u fun e w' => e = .returned (strRes (rkO z (str l) ds (N : Int))) ∧ Below u.heap.size u w') := fun A' c' u hu hr' => by
      have h := rkI_any A A' c c' z ds.reverse (str l) (N : Int) u (reads_up4 HR.out hu) hr' hz6 (by rw [List.length_reverse]; exact hd6) hm
      rw [rkO_rev, List.length_reverse, ← HM.out] at h
      exact h
    have HR1 : Hid (∀ (u : World), Below w1.heap.size w1 u → Calls Try.prog 12 #[.slice A z.length c, .string (str l), .slice D 1 cd, .int .i64 (N : Int)] u fun e w' => e = .returned (strRes (rcvO z (str l) (ds.getD 0 0) (N : Int))) ∧ Below u.heap.size u w') := fun u hu => by
      have h := rkI_any A D c cd z (ds.take 1) (str l) (N : Int) u (reads_up4 HR.out hu) ((reads_up4 HRD.out hu).take 1) hz6 (by rw [List.length_take]; omega) hm
      rw [List.length_take, Nat.min_eq_left (by rw [← HM.out]; exact hM1), take_one (by rw [← HM.out]; exact hM1), hone] at h
      exact h
    obtain ⟨X, hX⟩ : ∃ X : Nat, ds.getD 0 0 = (X : Int) := ⟨(ds.getD 0 0).toNat, by omega⟩
    rw [hX] at HR1 hls1
    rw [rcv_yes hls1] at HR1
    have HSU : Hid (∀ (u : World), Below w1.heap.size w1 u → Calls Try.prog 15 #[.slice A z.length c, .string (str l), .int .i64 (X : Int), .int .i64 (N : Int)] u fun e w' => e = .returned (.string (str (signs (dots z (str l).data.toList X N)))) ∧ Below u.heap.size u w') := fun u hu => ssUser_yes A c z (str l) _ _ _ u (reads_up4 HR.out hu) hz6 hm (rcv_yes hls1)
    rw [rk_yes hls] at HSI HSS HRK
    have hBl : (signs (rkL z (str l).data.toList ds N ds.length)).length = N := by rw [signs_len, rkL_len]
    obtain ⟨B, hB⟩ : ∃ B, B = signs (rkL z (str l).data.toList ds N ds.length) := ⟨_, rfl⟩
    obtain ⟨B1, hB1⟩ : ∃ B1, B1 = signs (dots z (str l).data.toList X N) := ⟨_, rfl⟩
    rw [← hB] at HSI HSS hBl HRK
    rw [← hB1] at HR1 HSU
    change Hid (∀ u : World, _ → Calls _ _ _ u fun e w' => e = .returned (.tuple #[.string (str B), .bool true]) ∧ _) at HSI
    change Hid (∀ u : World, _ → Calls _ _ _ u fun e w' => e = .returned (.tuple #[.string (str B), .bool true]) ∧ _) at HSS
    change Hid (∀ (A' : Option Addr) (c' : Nat) (u : World), _ → _ → Calls _ _ _ u fun e w' => e = .returned (.tuple #[.string (str B), .bool true]) ∧ _) at HRK
    change Hid (∀ u : World, _ → Calls _ _ _ u fun e w' => e = .returned (.tuple #[.string (str B1), .bool true]) ∧ _) at HR1
    have zB : (str B).size = N := by rw [str_size, hBl]
    have HX := Lib.hid hX
    have HDR : Hid (∀ j, j < M → (ds.drop j).reverse = (ds.drop (j + 1)).reverse ++ [ds.getD j 0]) := fun j hj => drop_rev (by rw [← HM.out]; exact hj)
    have HD0 : Hid ((ds.drop M).reverse = []) := by show _ = _; rw [HM.out, List.drop_length]; rfl
    have HDL : Hid (∀ j, (ds.drop j).reverse.length = M - j) := fun j => by rw [List.length_reverse, List.length_drop, ← HM.out]
    clear hls hz hq hB hB1 hBl hall hmem h0 hone hls1 hX hx0 hx3
    go_wp2_with fail
    refine (HSI.out _ hb).mono ?_
    rintro e w2 ⟨rfl, k2⟩
    replace hb := below_next hb k2
    clear k2
    go_wp2_with fail
    refine (HSS.out _ hb).mono ?_
    rintro e w3 ⟨rfl, k3⟩
    replace hb := below_next hb k3
    clear k3
    have HB3 := Lib.hid hb
    have hs3 := hb.size
    clear hb
    go_wp2
    go_loopw [11, 12] (fun v i wr => ∃ (i0 : Int) (k : Nat), i = .int .i64 i0 ∧ i0 + 1 = (k : Int) ∧ k ≤ M ∧ Sl wr w3.heap.size wr.heap.size v ((ds.drop k).reverse) ∧ Below w3.heap.size w3 wr) (fun _ i _ => (intOf i + 1).toNat)
    case atStart => exact ⟨(M : Int) - 1, M, rfl, by omega, Nat.le_refl _, by rw [HD0.out]; exact sl_empty, (Below.refl _ _).alloc (Nat.le_refl _) _⟩
    case round =>
      obtain ⟨i0, k, rfl, hik, hk, hsl, hb⟩ := hrel
      by_cases hlt : 0 ≤ i0
      · obtain ⟨j, rfl⟩ : ∃ j : Nat, i0 = (j : Int) := ⟨i0.toNat, by omega⟩
        obtain rfl : k = j + 1 := by omega
        obtain ⟨ad, rfl, hadb, hcell⟩ := HRD.out.at_ (k := j) (by rw [← HM.out]; omega)
        obtain ⟨y, hy⟩ : ∃ y, y = ds.getD j 0 := ⟨_, rfl⟩
        rw [← hy] at hcell
        have hjM : j < M := by omega
        have hc1 : wr.cell? (ad.add j) = some (.int .i64 y) := by rw [hb.cell (by rw [add_block]; omega), HB3.out.cell (by rw [add_block]; exact hadb)]; exact hcell
        have HE : Hid ((ds.drop j).reverse = (ds.drop (j + 1)).reverse ++ [y]) := by show _ = _; rw [hy]; exact HDR.out j hjM
        have hlk := HDL.out (j + 1)
        have hs2 := Lib.hid (hsl.below ((Below.refl wr.heap.size wr).alloc (Nat.le_refl _) (.cells #[.int .i64 y] 3)) (Nat.le_refl _) |>.mono (Nat.le_refl _) (show wr.heap.size ≤ (wr.alloc (.cells #[.int .i64 y] 3)).heap.size by simp))
        have hb2 := Lib.hid (hb.alloc hb.size (.cells #[.int .i64 y] 3))
        have hwr := hb.size
        obtain ⟨T, hT⟩ : ∃ T, T = (ds.drop (j + 1)).reverse := ⟨_, rfl⟩
        rw [← hT] at hs2 HE hlk
        clear hcell hy hsl hb hT
        go_wp2_with (at_builtin; go_must (refine appSl (w0 := w3) rfl _ _ rfl w3.heap.size _ T [y] (some ⟨wr.heap.size, 0, none⟩) 1 1 rfl rfl rfl hs2.out ⟨_, rfl, fun i hi => by simp at hi; subst hi; simp [Addr.add]⟩ hb2.out (Nat.le_refl _) (by simp; omega) ?_); intro v2 w4 hs4 hb4)
        have HS4 := Lib.hid hs4
        have HB4 := Lib.hid hb4
        clear hs4 hb4
        go_wp2
        go_roundw
        case rel => exact ⟨(j : Int) - 1, j, by go_num, by omega, by omega, by rw [HE.out]; exact HS4.out, HB4.out⟩
        case measure => simp [intOf]; try omega
      · obtain rfl : k = 0 := by omega
        obtain ⟨A4, c4, rfl, hr4, _⟩ := hsl.reads
        have hlk := HDL.out 0
        rw [hlk]
        have hb5 := HB3.out.trans (hb.mono hs3)
        have HRK2 := Lib.hid (HRK.out A4 c4 wr hb5 hr4)
        have HB5 := Lib.hid hb5
        clear hsl hr4 hb hb5 hlk
        go_wp2_with fail
        refine HRK2.out.mono ?_
        rintro e w5 ⟨rfl, k5⟩
        have hb6 := HB5.out.trans (k5.mono HB5.out.size)
        clear k5 HRK2
        go_wp2_with fail
        refine (HR1.out _ hb6).mono ?_
        rintro e w6 ⟨rfl, k6⟩
        have hb7 := hb6.trans (k6.mono hb6.size)
        clear k6 hb6
        obtain ⟨ad, rfl, hadb, hcell⟩ := HRD.out.at_ (k := 0) (by rw [← HM.out]; omega)
        have hc0 : w6.cell? ad = some (.int .i64 (X : Int)) := by
          rw [HX.out] at hcell
          rw [hb7.cell hadb]
          simpa [Addr.add] using hcell
        clear hcell
        go_wp2_with fail
        refine (HSU.out _ hb7).mono ?_
        rintro e w7 ⟨rfl, k7⟩
        have hb8 := hb7.trans (k7.mono hb7.size)
        clear k7 hb7
        go_wp2
        go_ret
        exact ⟨rfl, HB1.out.trans (hb8.mono hs1)⟩
end Go.Proofs.Ytiiiaeemblcniaa.fnRake
