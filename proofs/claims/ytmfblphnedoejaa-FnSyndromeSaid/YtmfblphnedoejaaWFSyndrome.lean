/- The walk of the law FnSyndrome: the syndrome of a sum is the sum of both without carries, and changing a bit adds its place. -/
import Derived.Test.YtmfblphnedoejaaWk
import Derived.Test.YtmfblphnedoejaaPHam
import Derived.Test.YtmfblphnedoejaaDraw6
namespace Go.Proofs.Ytmfblphnedoejaa.fnSyndrome
set_option maxRecDepth 20000
open Go.ChangeShapes Go.WideShapes Go.ChangeAt Go.RowKit
set_option linter.unusedVariables false
set_option linter.unusedSimpArgs false

theorem hsyn_cases (l : List UInt8) : hsyn l = -1 ∨ (bitsOK l = true ∧ l.length = 7 ∧ hsyn l = synTo l 7 ∧ synTo l 7 ≤ 7) := by
  by_cases h : (bitsOK l && l.length == 7) = true
  · right
    simp only [Bool.and_eq_true, beq_iff_eq] at h
    exact ⟨h.1, h.2, by unfold hsyn; rw [h.1, h.2]; rfl, syn7_lt l⟩
  · left; unfold hsyn; rw [if_neg h]
theorem hsyn_7 {l : List UInt8} (h : bitsOK l = true) (h7 : l.length = 7) : hsyn l = synTo l 7 := by unfold hsyn; rw [h, h7]; rfl

set_option maxHeartbeats 4000000 in
theorem walk (a0 : Option Addr) (len0 cap0 : Nat) (z0 : List Int) (a1 : Option Addr) (len1 cap1 : Nat) (z1 : List Int) (w : World) (hw0 : IsRow .u8 w a0 len0 cap0 z0) (hw1 : IsRow .u8 w a1 len1 cap1 z1) :
    Calls Try.prog 7 #[.slice a0 len0 cap0, .slice a1 len1 cap1] w fun e w' => e = .returned (.bool true) ∧ Below w.heap.size w w' := by
  by_cases hlen : len0 ≤ 1048576
  rotate_left
  · go_enter Try.func7, Try.ntmps7
    go_wp2
    go_ret
    exact ⟨rfl, Below.refl _ _⟩
  by_cases hlen1 : len1 ≤ 1048576
  rotate_left
  · go_enter Try.func7, Try.ntmps7
    go_wp2
    go_ret
    exact ⟨rfl, Below.refl _ _⟩
  go_enter Try.func7, Try.ntmps7
  go_wp2_with fail
  refine (drawSyn_any _ _ _ _ _ hw0).mono ?_
  rintro e w1 ⟨l, rfl, hl, hb⟩
  clear hw0
  have zl := str_size l
  have hm : (str l).size ≤ maxLen := by unfold maxLen; omega
  rcases hsyn_cases l with hE | ⟨hbl, h7, hE, hN⟩
  · have HI : Hid (∀ u : World, Calls Try.prog 32 #[.string (str l)] u fun e w' => e = .returned (.int .i64 (-1)) ∧ Below u.heap.size u w') := fun u => by
      have hh := hsynI_any (str l) u hm
      rw [str_list, hE] at hh
      exact hh
    have HS : Hid (∀ u : World, Calls Try.prog 33 #[.string (str l)] u fun e w' => e = .returned (.int .i64 (-1)) ∧ Below u.heap.size u w') := fun u => by
      have hh := hsynS_any (str l) u hm
      rw [str_list, hE] at hh
      exact hh
    clear hE hw1
    go_wp2_with fail
    refine (HI.out _).mono ?_
    rintro e w2 ⟨rfl, k⟩
    replace hb := below_next hb k
    clear k
    (try clear hc hf)
    obtain ⟨hc, hf⟩ := bcell hb
    go_wp2_with fail
    refine (HS.out _).mono ?_
    rintro e w3 ⟨rfl, k⟩
    replace hb := below_next hb k
    clear k
    (try clear hc hf)
    obtain ⟨hc, hf⟩ := bcell hb
    go_wp2_with fail
    refine (HS.out _).mono ?_
    rintro e w4 ⟨rfl, k⟩
    replace hb := below_next hb k
    clear k
    (try clear hc hf)
    obtain ⟨hc, hf⟩ := bcell hb
    go_wp2
    go_ret
    exact ⟨rfl, hb⟩
  obtain ⟨N, hNe⟩ : ∃ N, N = synTo l 7 := ⟨_, rfl⟩
  rw [← hNe] at hE hN
  have HI : Hid (∀ u : World, Calls Try.prog 32 #[.string (str l)] u fun e w' => e = .returned (.int .i64 (N : Int)) ∧ Below u.heap.size u w') := fun u => by
    have hh := hsynI_any (str l) u hm
    rw [str_list, hE] at hh
    exact hh
  have HS : Hid (∀ u : World, Calls Try.prog 33 #[.string (str l)] u fun e w' => e = .returned (.int .i64 (N : Int)) ∧ Below u.heap.size u w') := fun u => by
    have hh := hsynS_any (str l) u hm
    rw [str_list, hE] at hh
    exact hh
  have HR := Lib.hid hw1
  have HBL := Lib.hid hbl
  have HNE := Lib.hid hNe
  clear hE hw1 hbl hNe
  go_wp2_with fail
  refine (HI.out _).mono ?_
  rintro e w2 ⟨rfl, k⟩
  replace hb := below_next hb k
  clear k
  (try clear hc hf)
  obtain ⟨hc, hf⟩ := bcell hb
  go_wp2_with fail
  refine (HS.out _).mono ?_
  rintro e w3 ⟨rfl, k⟩
  replace hb := below_next hb k
  clear k
  (try clear hc hf)
  obtain ⟨hc, hf⟩ := bcell hb
  go_wp2_with fail
  refine (drawSyn_any _ _ _ _ _ (HR.out.below hb)).mono ?_
  rintro e w4 ⟨l2, rfl, hl2, k⟩
  replace hb := below_next hb k
  clear k hc hf
  have zl2 := str_size l2
  have hm2 : (str l2).size ≤ maxLen := by unfold maxLen; omega
  rcases hsyn_cases l2 with hE | ⟨hbl2, h72, hE, hM⟩
  · have HI2 : Hid (∀ u : World, Calls Try.prog 32 #[.string (str l2)] u fun e w' => e = .returned (.int .i64 (-1)) ∧ Below u.heap.size u w') := fun u => by
      have hh := hsynI_any (str l2) u hm2
      rw [str_list, hE] at hh
      exact hh
    clear hE
    have hd7 : decide ((N : Int) ≤ 7) = true := by simp; omega
    go_wp2_with fail
    refine (HI2.out _).mono ?_
    rintro e w5 ⟨rfl, k⟩
    replace hb := below_next hb k
    clear k
    (try clear hc hf)
    obtain ⟨hc, hf⟩ := bcell hb
    go_wp2
    go_ret
    exact ⟨rfl, hb⟩
  obtain ⟨M, hMe⟩ : ∃ M, M = synTo l2 7 := ⟨_, rfl⟩
  rw [← hMe] at hE hM
  have HI2 : Hid (∀ u : World, Calls Try.prog 32 #[.string (str l2)] u fun e w' => e = .returned (.int .i64 (M : Int)) ∧ Below u.heap.size u w') := fun u => by
    have hh := hsynI_any (str l2) u hm2
    rw [str_list, hE] at hh
    exact hh
  have HF : Hid (∀ j : Nat, j < 7 → ∀ u : World, Calls Try.prog 24 #[.string (str l), .int .i64 (j : Int)] u fun e w' => e = .returned (.string (str (flipL l j))) ∧ Below u.heap.size u w') := Lib.hid fun j hj u => ssFlip_any l j u (by omega) (by omega) (bitAt HBL.out j (by omega))
  have HH : Hid (∀ j : Nat, j < 7 → ∀ u : World, Calls Try.prog 32 #[.string (str (flipL l j))] u fun e w' => e = .returned (.int .i64 (bits .xor .i64 (N : Int) ((j : Int) + 1))) ∧ Below u.heap.size u w') := Lib.hid fun j hj u => by
    have := hsynI_any (str (flipL l j)) u (by rw [str_size, flipL_len]; unfold maxLen; omega)
    rw [str_list, hsyn_7 (flip_ok HBL.out (by omega)) (by rw [flipL_len]; exact h7), syn_flip (bitAt HBL.out) (by omega) 7 (by omega), if_pos hj, ← HNE.out, ← i64_xor_nat _ _ (by omega) (by omega)] at this
    exact this
  have HX : Hid (∀ u : World, Calls Try.prog 30 #[.string (str l), .string (str l2)] u fun e w' => e = .returned (.string (str (sumL l l2))) ∧ Below u.heap.size u w') := fun u => by
    have hh := ssXor_any l l2 u (by omega) (by omega) (bits_mem HBL.out) (bits_mem hbl2)
    exact hh
  have HU : Hid (∀ u : World, Calls Try.prog 32 #[.string (str (sumL l l2))] u fun e w' => e = .returned (.int .i64 (bits .xor .i64 (N : Int) (M : Int))) ∧ Below u.heap.size u w') := Lib.hid fun u => by
    have := hsynI_any (str (sumL l l2)) u (by rw [str_size, sumL_len]; unfold maxLen; omega)
    rw [str_list, hsyn_7 (sum_ok HBL.out) (by rw [sumL_len]; exact h7), syn_sum (bitAt HBL.out) (fun k hk => bitAt hbl2 k (by omega)) 7 (by omega), ← HNE.out, ← hMe, ← i64_xor_nat _ _ (by omega) (by omega)] at this
    exact this
  clear hE hbl2 hMe HI HS HBL HNE
  generalize sumL l l2 = SL at *
  have hbz := hb
  clear hbz
  go_wp2_with fail
  refine (HI2.out _).mono ?_
  rintro e w5 ⟨rfl, k⟩
  replace hb := below_next hb k
  clear k
  go_wp2
  go_loopw [9] (fun i wr => ∃ j : Nat, i = .int .i64 ((j : Int) + 1) ∧ j ≤ 7 ∧ Below w.heap.size w wr) (fun i _ => 8 - (intOf i).toNat)
  case atStart => exact ⟨0, rfl, Nat.zero_le _, hb⟩
  case round =>
    clear hb
    obtain ⟨j, rfl, hj, hb⟩ := hrel
    by_cases hlt : j < 7
    · have e1 : (j : Int) + 1 - 1 = (j : Int) := by omega
      have HH2 := Lib.hid (HH.out j hlt)
      obtain ⟨X, hX⟩ : ∃ X, X = bits .xor .i64 (N : Int) ((j : Int) + 1) := ⟨_, rfl⟩
      rw [← hX] at HH2
      have hX2 := hX.symm
      clear hX
      go_wp2_with fail
      refine (HF.out j hlt _).mono ?_
      rintro e w6 ⟨rfl, k⟩
      replace hb := below_next hb k
      clear k
      go_wp2_with fail
      refine (HH2.out _).mono ?_
      rintro e w7 ⟨rfl, k⟩
      replace hb := below_next hb k
      clear k
      go_wp2
      go_roundw
      case rel => exact ⟨j + 1, by congr 1, by omega, hb⟩
      case measure => simp [intOf]; omega
    · obtain rfl : j = 7 := by omega
      obtain ⟨X, hX⟩ : ∃ X, X = bits .xor .i64 (N : Int) (M : Int) := ⟨_, rfl⟩
      have HU2 := Lib.hid HU.out
      rw [← hX] at HU2
      have hX2 := hX.symm
      clear hX
      have hd7 : decide ((N : Int) ≤ 7) = true := by simp; omega
      go_wp2_with fail
      refine (HX.out _).mono ?_
      rintro e w6 ⟨rfl, k⟩
      replace hb := below_next hb k
      clear k
      (try clear hc hf)
      obtain ⟨hc, hf⟩ := bcell hb
      go_wp2_with fail
      refine (HU2.out _).mono ?_
      rintro e w7 ⟨rfl, k⟩
      replace hb := below_next hb k
      clear k
      (try clear hc hf)
      obtain ⟨hc, hf⟩ := bcell hb
      go_wp2
      go_ret
      exact ⟨rfl, hb⟩
end Go.Proofs.Ytmfblphnedoejaa.fnSyndrome
