/- The walk of the law FnCrcSum: the check bits of a sum are the sums of both, and bits with their check bits behind them have zeros as check bits. -/
import Derived.Test.YtmfblphnedoejaaSs
import Derived.Test.YtmfblphnedoejaaPCrc
namespace Go.Proofs.Ytmfblphnedoejaa.fnCrcSum
set_option maxRecDepth 20000
open Go.ChangeShapes Go.WideShapes Go.ChangeAt Go.RowKit
set_option linter.unusedVariables false
set_option linter.unusedSimpArgs false

theorem bitAt {l : List UInt8} (h : bitsOK l = true) : ∀ k, k < l.length → bit (l.getD k 0) := fun k hk => by
  have := getD_bit h hk
  simpa [bit1, bit] using this
theorem bits_mem {l : List UInt8} (h : bitsOK l = true) : ∀ c ∈ l, bit c := fun c hc => by
  unfold bitsOK at h
  simp only [Bool.and_eq_true, List.all_eq_true] at h
  have := h.2 c hc
  simpa [bit1, bit] using this
theorem bits_rev {l : List UInt8} (h : bitsOK l = true) : bitsOK l.reverse = true :=
  bitsOK_mk (by rw [List.length_reverse]; exact bits_le h) (fun c hc => bit1_of (bits_mem h c (List.mem_reverse.1 hc)))
theorem bits_sum {a b : List UInt8} (h : bitsOK a = true) : bitsOK (sumL a b) = true :=
  bitsOK_mk (by rw [sumL_len]; exact bits_le h) (fun c hc => by
    unfold sumL at hc
    simp only [List.mem_map] at hc
    obtain ⟨k, _, rfl⟩ := hc
    unfold sumAt
    split <;> rfl)
theorem crc_bits1 (l : List UInt8) : ∀ c ∈ crcL l, bit1 c = true := fun c hc => by
  unfold crcL binL at hc
  simp only [List.mem_map] at hc
  obtain ⟨k, _, rfl⟩ := hc
  exact digB_bit1 _ _
theorem bit_of1 {c : UInt8} (h : bit1 c = true) : bit c := by simpa [bit1, bit] using h
theorem crc8 (l : List UInt8) : (crcL l).length = 8 := binL_len _ _
theorem bits_own {l : List UInt8} (h : bitsOK l = true) (h5 : l.length ≤ 592) : bitsOK (l ++ crcL l) = true :=
  bitsOK_mk (by rw [List.length_append, crc8]; omega) (fun c hc => by
    rcases List.mem_append.1 hc with h1 | h1
    · exact bit1_of (bits_mem h c h1)
    · exact crc_bits1 l c h1)

set_option maxHeartbeats 2000000 in
theorem walk (a0 : Option Addr) (len0 cap0 : Nat) (z0 : List Int) (w : World) (hw0 : IsRow .u8 w a0 len0 cap0 z0) :
    Calls Try.prog 6 #[.slice a0 len0 cap0] w fun e w' => e = .returned (.bool true) ∧ Below w.heap.size w w' := by
  by_cases hlen : len0 ≤ 1048576
  rotate_left
  · go_enter Try.func6, Try.ntmps6
    go_wp2
    go_ret
    exact ⟨rfl, Below.refl _ _⟩
  go_enter Try.func6, Try.ntmps6
  go_wp2_with fail
  refine (drawCrc_any _ _ _ _ _ hw0).mono ?_
  rintro e w1 ⟨l, rfl, hl, hb⟩
  clear hw0
  have zl := str_size l
  have hm : (str l).size ≤ maxLen := by unfold maxLen; omega
  cases hE : crcOf l with
  | none =>
    have HI : Hid (∀ u : World, Calls Try.prog 27 #[.string (str l)] u fun e w' => e = .returned (.tuple #[.string ⟨#[]⟩, .bool false]) ∧ Below u.heap.size u w') := fun u => by
      have hh := crcI_any (str l) u hm
      rw [str_list, hE] at hh
      exact hh
    have HS : Hid (∀ u : World, Calls Try.prog 28 #[.string (str l)] u fun e w' => e = .returned (.tuple #[.string ⟨#[]⟩, .bool false]) ∧ Below u.heap.size u w') := fun u => by
      have hh := crcS_any (str l) u hm
      rw [str_list, hE] at hh
      exact hh
    clear hE
    go_wp2_with fail
    refine (HI.out _).mono ?_
    rintro e w2 ⟨rfl, k⟩
    replace hb := below_next hb k
    clear k
    (try clear hc hf)
    obtain ⟨hc, hf⟩ := bcell hb
    go_wp2_with fail
    refine (HS.out _).mono ?_
    rintro e w3 ⟨rfl, k⟩
    replace hb := below_next hb k
    clear k
    (try clear hc hf)
    obtain ⟨hc, hf⟩ := bcell hb
    go_wp2
    go_ret
    exact ⟨rfl, hb⟩
  | some E =>
    have hEE : bitsOK l = true ∧ E = crcL l := by
      unfold crcOf at hE
      split at hE
      · exact ⟨‹_›, (Option.some.inj hE).symm⟩
      · cases hE
    obtain ⟨hbl, hEe⟩ := hEE
    have hl6 := bits_le hbl
    have hE8 : E.length = 8 := by rw [hEe, crc8]
    have hbr := bits_rev hbl
    obtain ⟨T, hT⟩ : ∃ T, T = l.reverse := ⟨_, rfl⟩
    obtain ⟨D, hD⟩ : ∃ D, D = crcL T := ⟨_, rfl⟩
    rw [← hT] at hbr
    have hTl : T.length = l.length := by rw [hT, List.length_reverse]
    have hD8 : D.length = 8 := by rw [hD, crc8]
    have d1 : crcOf T = some D := by rw [crcOf_yes hbr, hD]
    have d2 : crcOf (sumL l T) = some (sumL E D) := by rw [crcOf_yes (bits_sum hbl), crcL_sum hTl (bitAt hbl) (fun k hk => bitAt hbr k (by omega)), hEe, hD]
    have zt := str_size T
    have ze := str_size E
    have zd := str_size D
    have zs := str_size (sumL l T)
    rw [sumL_len] at zs
    rw [hTl] at zt
    rw [hE8] at ze
    rw [hD8] at zd
    have hmt : (str T).size ≤ maxLen := by unfold maxLen; omega
    have hms : (str (sumL l T)).size ≤ maxLen := by unfold maxLen; omega
    have HI : Hid (∀ u : World, Calls Try.prog 27 #[.string (str l)] u fun e w' => e = .returned (.tuple #[.string (str E), .bool true]) ∧ Below u.heap.size u w') := fun u => by
      have hh := crcI_any (str l) u hm
      rw [str_list, hE] at hh
      exact hh
    have HS : Hid (∀ u : World, Calls Try.prog 28 #[.string (str l)] u fun e w' => e = .returned (.tuple #[.string (str E), .bool true]) ∧ Below u.heap.size u w') := fun u => by
      have hh := crcS_any (str l) u hm
      rw [str_list, hE] at hh
      exact hh
    have HT : Hid (∀ u : World, Calls Try.prog 29 #[.string (str l)] u fun e w' => e = .returned (.string (str T)) ∧ Below u.heap.size u w') := fun u => by
      have hh := ssTurned_any l u (by omega)
      rw [← hT] at hh
      exact hh
    have HD : Hid (∀ u : World, Calls Try.prog 27 #[.string (str T)] u fun e w' => e = .returned (.tuple #[.string (str D), .bool true]) ∧ Below u.heap.size u w') := fun u => by
      have hh := crcI_any (str T) u hmt
      rw [str_list, d1] at hh
      exact hh
    have HX : Hid (∀ u : World, Calls Try.prog 30 #[.string (str l), .string (str T)] u fun e w' => e = .returned (.string (str (sumL l T))) ∧ Below u.heap.size u w') := fun u => by
      have hh := ssXor_any l T u (by omega) hTl (bits_mem hbl) (bits_mem hbr)
      exact hh
    have HU : Hid (∀ u : World, Calls Try.prog 27 #[.string (str (sumL l T))] u fun e w' => e = .returned (.tuple #[.string (str (sumL E D)), .bool true]) ∧ Below u.heap.size u w') := fun u => by
      have hh := crcI_any (str (sumL l T)) u hms
      rw [str_list, d2] at hh
      exact hh
    have HY : Hid (∀ u : World, Calls Try.prog 30 #[.string (str E), .string (str D)] u fun e w' => e = .returned (.string (str (sumL E D))) ∧ Below u.heap.size u w') := fun u => by
      have hh := ssXor_any E D u (by omega) (by omega) (fun c hc => bit_of1 (crc_bits1 _ c (hEe ▸ hc))) (fun c hc => bit_of1 (crc_bits1 _ c (hD ▸ hc)))
      exact hh
    by_cases h5 : l.length ≤ 592
    · have d3 : crcOf (l ++ E) = some (List.replicate 8 48) := by rw [hEe, crcOf_yes (bits_own hbl h5), crcL_own]
      have za := str_add l E
      have zz := str_size (l ++ E)
      have zl2 : (l ++ E).length = l.length + 8 := by rw [List.length_append, hE8]
      rw [zl2] at zz
      have hma : (str (l ++ E)).size ≤ maxLen := by unfold maxLen; omega
      have HA : Hid (∀ u : World, Calls Try.prog 27 #[.string (str (l ++ E))] u fun e w' => e = .returned (.tuple #[.string ⟨#[48, 48, 48, 48, 48, 48, 48, 48]⟩, .bool true]) ∧ Below u.heap.size u w') := fun u => by
        have hh := crcI_any (str (l ++ E)) u hma
        rw [str_list, d3] at hh
        exact hh
      clear hE d1 d2 d3 hEe hD hT hbl hbr zl2
      generalize sumL E D = SED at *
      generalize sumL l T = SLT at *
      go_wp2_with fail
      refine (HI.out _).mono ?_
      rintro e w2 ⟨rfl, k⟩
      replace hb := below_next hb k
      clear k
      (try clear hc hf)
      obtain ⟨hc, hf⟩ := bcell hb
      go_wp2_with fail
      refine (HS.out _).mono ?_
      rintro e w3 ⟨rfl, k⟩
      replace hb := below_next hb k
      clear k
      (try clear hc hf)
      obtain ⟨hc, hf⟩ := bcell hb
      go_wp2_with fail
      refine (HT.out _).mono ?_
      rintro e w4 ⟨rfl, k⟩
      replace hb := below_next hb k
      clear k
      (try clear hc hf)
      obtain ⟨hc, hf⟩ := bcell hb
      go_wp2_with fail
      refine (HD.out _).mono ?_
      rintro e w5 ⟨rfl, k⟩
      replace hb := below_next hb k
      clear k
      (try clear hc hf)
      obtain ⟨hc, hf⟩ := bcell hb
      go_wp2_with fail
      refine (HX.out _).mono ?_
      rintro e w6 ⟨rfl, k⟩
      replace hb := below_next hb k
      clear k
      (try clear hc hf)
      obtain ⟨hc, hf⟩ := bcell hb
      go_wp2_with fail
      refine (HU.out _).mono ?_
      rintro e w7 ⟨rfl, k⟩
      replace hb := below_next hb k
      clear k
      (try clear hc hf)
      obtain ⟨hc, hf⟩ := bcell hb
      go_wp2_with fail
      refine (HA.out _).mono ?_
      rintro e w8 ⟨rfl, k⟩
      replace hb := below_next hb k
      clear k
      (try clear hc hf)
      obtain ⟨hc, hf⟩ := bcell hb
      go_wp2_with fail
      refine (HY.out _).mono ?_
      rintro e w9 ⟨rfl, k⟩
      replace hb := below_next hb k
      clear k
      (try clear hc hf)
      obtain ⟨hc, hf⟩ := bcell hb
      go_wp2
      go_ret
      exact ⟨rfl, hb⟩
    · clear hE d1 d2 hEe hD hT hbl hbr
      generalize sumL E D = SED at *
      generalize sumL l T = SLT at *
      go_wp2_with fail
      refine (HI.out _).mono ?_
      rintro e w2 ⟨rfl, k⟩
      replace hb := below_next hb k
      clear k
      (try clear hc hf)
      obtain ⟨hc, hf⟩ := bcell hb
      go_wp2_with fail
      refine (HS.out _).mono ?_
      rintro e w3 ⟨rfl, k⟩
      replace hb := below_next hb k
      clear k
      (try clear hc hf)
      obtain ⟨hc, hf⟩ := bcell hb
      go_wp2_with fail
      refine (HT.out _).mono ?_
      rintro e w4 ⟨rfl, k⟩
      replace hb := below_next hb k
      clear k
      (try clear hc hf)
      obtain ⟨hc, hf⟩ := bcell hb
      go_wp2_with fail
      refine (HD.out _).mono ?_
      rintro e w5 ⟨rfl, k⟩
      replace hb := below_next hb k
      clear k
      (try clear hc hf)
      obtain ⟨hc, hf⟩ := bcell hb
      go_wp2_with fail
      refine (HX.out _).mono ?_
      rintro e w6 ⟨rfl, k⟩
      replace hb := below_next hb k
      clear k
      (try clear hc hf)
      obtain ⟨hc, hf⟩ := bcell hb
      go_wp2_with fail
      refine (HU.out _).mono ?_
      rintro e w7 ⟨rfl, k⟩
      replace hb := below_next hb k
      clear k
      (try clear hc hf)
      obtain ⟨hc, hf⟩ := bcell hb
      go_wp2_with fail
      refine (HY.out _).mono ?_
      rintro e w9 ⟨rfl, k⟩
      replace hb := below_next hb k
      clear k
      (try clear hc hf)
      obtain ⟨hc, hf⟩ := bcell hb
      go_wp2
      go_ret
      exact ⟨rfl, hb⟩
end Go.Proofs.Ytmfblphnedoejaa.fnCrcSum
