/- The walk of the law FnCrcDetects: changing one bit, or two bits that are less than 8 apart, changes the check bits. -/
import Derived.Test.YtmfblphnedoejaaWk
import Derived.Test.YtmfblphnedoejaaPCrc
namespace Go.Proofs.Ytmfblphnedoejaa.fnCrcDetects
set_option maxRecDepth 20000
open Go.ChangeShapes Go.WideShapes Go.ChangeAt Go.RowKit
set_option linter.unusedVariables false
set_option linter.unusedSimpArgs false

set_option maxHeartbeats 4000000 in
theorem walk (a0 : Option Addr) (len0 cap0 : Nat) (z0 : List Int) (a1 : Option Addr) (len1 cap1 : Nat) (z1 : List Int) (w : World) (hw0 : IsRow .u8 w a0 len0 cap0 z0) (hw1 : IsRow .u8 w a1 len1 cap1 z1) :
    Calls Try.prog 5 #[.slice a0 len0 cap0, .slice a1 len1 cap1] w fun e w' => e = .returned (.bool true) ∧ Below w.heap.size w w' := by
  by_cases hlen : len0 ≤ 1048576
  rotate_left
  · go_enter Try.func5, Try.ntmps5
    go_wp2
    go_ret
    exact ⟨rfl, Below.refl _ _⟩
  by_cases hlen1 : len1 ≤ 1048576
  rotate_left
  · go_enter Try.func5, Try.ntmps5
    go_wp2
    go_ret
    exact ⟨rfl, Below.refl _ _⟩
  clear hw1
  go_enter Try.func5, Try.ntmps5
  go_wp2_with fail
  refine (drawCrc_any _ _ _ _ _ hw0).mono ?_
  rintro e w1 ⟨l, rfl, hl, hb⟩
  clear hw0
  have zl := str_size l
  have hm : (str l).size ≤ maxLen := by unfold maxLen; omega
  cases hE : crcOf l with
  | none =>
    have HI : Hid (∀ u : World, Calls Try.prog 27 #[.string (str l)] u fun e w' => e = .returned (.tuple #[.string ⟨#[]⟩, .bool false]) ∧ Below u.heap.size u w') := fun u => by
      have hh := crcI_any (str l) u hm
      rw [str_list, hE] at hh
      exact hh
    have HS : Hid (∀ u : World, Calls Try.prog 28 #[.string (str l)] u fun e w' => e = .returned (.tuple #[.string ⟨#[]⟩, .bool false]) ∧ Below u.heap.size u w') := fun u => by
      have hh := crcS_any (str l) u hm
      rw [str_list, hE] at hh
      exact hh
    clear hE
    go_wp2_with fail
    refine (HI.out _).mono ?_
    rintro e w2 ⟨rfl, k⟩
    replace hb := below_next hb k
    clear k
    (try clear hc hf)
    obtain ⟨hc, hf⟩ := bcell hb
    go_wp2_with fail
    refine (HS.out _).mono ?_
    rintro e w3 ⟨rfl, k⟩
    replace hb := below_next hb k
    clear k
    (try clear hc hf)
    obtain ⟨hc, hf⟩ := bcell hb
    go_wp2
    go_ret
    exact ⟨rfl, hb⟩
  | some E =>
    have hEE : bitsOK l = true ∧ E = crcL l := by
      unfold crcOf at hE
      split at hE
      · exact ⟨‹_›, (Option.some.inj hE).symm⟩
      · cases hE
    obtain ⟨hbl, hEe⟩ := hEE
    have HI : Hid (∀ u : World, Calls Try.prog 27 #[.string (str l)] u fun e w' => e = .returned (.tuple #[.string (str E), .bool true]) ∧ Below u.heap.size u w') := fun u => by
      have hh := crcI_any (str l) u hm
      rw [str_list, hE] at hh
      exact hh
    have HS : Hid (∀ u : World, Calls Try.prog 28 #[.string (str l)] u fun e w' => e = .returned (.tuple #[.string (str E), .bool true]) ∧ Below u.heap.size u w') := fun u => by
      have hh := crcS_any (str l) u hm
      rw [str_list, hE] at hh
      exact hh
    by_cases h60 : l.length ≤ 60
    rotate_left
    · clear hE hbl hEe
      go_wp2_with fail
      refine (HI.out _).mono ?_
      rintro e w2 ⟨rfl, k⟩
      replace hb := below_next hb k
      clear k
      (try clear hc hf)
      obtain ⟨hc, hf⟩ := bcell hb
      go_wp2_with fail
      refine (HS.out _).mono ?_
      rintro e w3 ⟨rfl, k⟩
      replace hb := below_next hb k
      clear k
      (try clear hc hf)
      obtain ⟨hc, hf⟩ := bcell hb
      go_wp2
      go_ret
      exact ⟨rfl, hb⟩
    have HF : Hid (∀ j, j < l.length → ∀ u : World, Calls Try.prog 24 #[.string (str l), .int .i64 (j : Int)] u fun e w' => e = .returned (.string (str (flipL l j))) ∧ Below u.heap.size u w') := Lib.hid fun j hj u => ssFlip_any l j u (by omega) hj (bitAt hbl j hj)
    have HG : Hid (∀ j k, j < l.length → k < l.length → ∀ u : World, Calls Try.prog 24 #[.string (str (flipL l j)), .int .i64 (k : Int)] u fun e w' => e = .returned (.string (str (flipL (flipL l j) k))) ∧ Below u.heap.size u w') := Lib.hid fun j k hj hk u => ssFlip_any (flipL l j) k u (by rw [flipL_len]; omega) (by rw [flipL_len]; exact hk) (bitAt (flip_ok hbl hj) k (by rw [flipL_len]; exact hk))
    have HC : Hid (∀ x, bitsOK x = true → ∀ u : World, Calls Try.prog 27 #[.string (str x)] u fun e w' => e = .returned (.tuple #[.string (str (crcL x)), .bool true]) ∧ Below u.heap.size u w') := Lib.hid fun x hx u => by
      have := crcI_any (str x) u (size_le (bits_le hx) (by omega))
      rw [str_list, crcOf_yes hx] at this
      exact this
    have HB := Lib.hid hbl
    have HN1 : Hid (∀ j, j < l.length → crcL (flipL l j) ≠ E) := Lib.hid fun j hj => by rw [hEe]; exact crc_flip1 (bitAt hbl) hj
    have HN2 : Hid (∀ j k, j < k → k < l.length → k ≤ j + 7 → crcL (flipL (flipL l j) k) ≠ E) := Lib.hid fun j k h1 h2 h3 => by rw [hEe]; exact crc_flip2 (bitAt hbl) h1 h2 h3
    obtain ⟨q, hq, hq7⟩ : ∃ q : Nat, (len1 : Int) % 7 = (q : Int) ∧ q ≤ 6 := ⟨len1 % 7, by omega, by omega⟩
    clear hE hbl hEe
    go_wp2_with fail
    refine (HI.out _).mono ?_
    rintro e w2 ⟨rfl, k⟩
    replace hb := below_next hb k
    clear k
    (try clear hc hf)
    obtain ⟨hc, hf⟩ := bcell hb
    go_wp2_with fail
    refine (HS.out _).mono ?_
    rintro e w3 ⟨rfl, k⟩
    replace hb := below_next hb k
    clear k
    (try clear hc hf)
    obtain ⟨hc, hf⟩ := bcell hb
    clear hc hf
    go_wp2
    go_loopw [10, 11, 12, 13, 14, 15, 16] (fun i _ _ _ _ _ _ wr => ∃ j : Nat, i = .int .i64 (j : Int) ∧ j ≤ l.length ∧ Below w.heap.size w wr) (fun i _ _ _ _ _ _ _ => l.length - (intOf i).toNat)
    case atStart => exact ⟨0, rfl, Nat.zero_le _, hb⟩
    case round =>
      clear hb
      obtain ⟨j, rfl, hj, hb⟩ := hrel
      by_cases hlt : j < l.length
      · have n1 := str_ne (HN1.out j hlt)
        go_wp2_with fail
        refine (HF.out j hlt _).mono ?_
        rintro e w5 ⟨rfl, k⟩
        replace hb := below_next hb k
        clear k
        (try clear hc hf)
        obtain ⟨hc, hf⟩ := bcell hb
        go_wp2_with fail
        refine (HC.out (flipL l j) (flip_ok HB.out hlt) _).mono ?_
        rintro e w6 ⟨rfl, k⟩
        replace hb := below_next hb k
        clear k
        (try clear hc hf)
        obtain ⟨hc, hf⟩ := bcell hb
        by_cases hk : j + 1 + q < l.length
        · have n2 := str_ne (HN2.out j (j + 1 + q) (by omega) hk (by omega))
          have hg := HG.out j (j + 1 + q) hlt hk
          have hcc := HC.out (flipL (flipL l j) (j + 1 + q)) (flip_ok (flip_ok HB.out hlt) (by rw [flipL_len]; exact hk))
          generalize crcL (flipL l j) = D1 at *
          generalize crcL (flipL (flipL l j) (j + 1 + q)) = D2 at *
          generalize flipL (flipL l j) (j + 1 + q) = X2 at *
          obtain ⟨p, hp⟩ : ∃ p : Nat, p = j + 1 + q := ⟨_, rfl⟩
          have hp1 : (j : Int) + 1 + (q : Int) = (p : Int) := by omega
          rw [← hp] at hg hk
          clear hp
          have HG2 := Lib.hid hg
          have HC2 := Lib.hid hcc
          clear hg hcc
          go_wp2_with fail
          refine (HG2.out _).mono ?_
          rintro e w7 ⟨rfl, k⟩
          replace hb := below_next hb k
          clear k
          (try clear hc hf)
          obtain ⟨hc, hf⟩ := bcell hb
          go_wp2_with fail
          refine (HC2.out _).mono ?_
          rintro e w8 ⟨rfl, k⟩
          replace hb := below_next hb k
          clear k
          (try clear hc hf)
          obtain ⟨hc, hf⟩ := bcell hb
          go_wp2
          go_roundw
          case rel => exact ⟨j + 1, by go_num, by omega, hb⟩
          case measure => simp [intOf]; omega
        · generalize crcL (flipL l j) = D1 at *
          go_wp2
          go_roundw
          case rel => exact ⟨j + 1, by go_num, by omega, hb⟩
          case measure => simp [intOf]; omega
      · go_wp2
        go_ret
        exact ⟨rfl, hb⟩
end Go.Proofs.Ytmfblphnedoejaa.fnCrcDetects
