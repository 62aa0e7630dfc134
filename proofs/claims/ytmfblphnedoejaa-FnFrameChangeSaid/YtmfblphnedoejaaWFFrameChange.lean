/- The walk of the law FnFrameChange: a frame with one changed bit, other than those of the number of bits, is none. -/
import Derived.Test.YtmfblphnedoejaaWk
import Derived.Test.YtmfblphnedoejaaPFrame
import Derived.Test.YtmfblphnedoejaaDraw4
namespace Go.Proofs.Ytmfblphnedoejaa.fnFrameChange
set_option maxRecDepth 20000
open Go.ChangeShapes Go.WideShapes Go.ChangeAt Go.RowKit
set_option linter.unusedVariables false
set_option linter.unusedSimpArgs false

set_option maxHeartbeats 8000000 in
theorem walk (a0 : Option Addr) (len0 cap0 : Nat) (z0 : List Int) (w : World) (hw0 : IsRow .u8 w a0 len0 cap0 z0) :
    Calls Try.prog 9 #[.slice a0 len0 cap0] w fun e w' => e = .returned (.bool true) ∧ Below w.heap.size w w' := by
  by_cases hlen : len0 ≤ 1048576
  rotate_left
  · go_enter Try.func9, Try.ntmps9
    go_wp2
    go_ret
    exact ⟨rfl, Below.refl _ _⟩
  go_enter Try.func9, Try.ntmps9
  go_wp2_with fail
  refine (drawFrame_any _ _ _ _ _ hw0).mono ?_
  rintro e w1 ⟨l, rfl, hl, hb⟩
  clear hw0
  have zl := str_size l
  have hm : (str l).size ≤ maxLen := by unfold maxLen; omega
  cases hE : frameOf l with
  | none =>
    have HI : Hid (∀ u : World, Calls Try.prog 39 #[.string (str l)] u fun e w' => e = .returned (.tuple #[.string ⟨#[]⟩, .bool false]) ∧ Below u.heap.size u w') := fun u => by
      have hh := frameI_any (str l) u hm
      rw [str_list, hE] at hh
      exact hh
    have HS : Hid (∀ u : World, Calls Try.prog 40 #[.string (str l)] u fun e w' => e = .returned (.tuple #[.string ⟨#[]⟩, .bool false]) ∧ Below u.heap.size u w') := fun u => by
      have hh := frameS_any (str l) u hm
      rw [str_list, hE] at hh
      exact hh
    clear hE
    go_wp2_with fail
    refine (HI.out _).mono ?_
    rintro e w2 ⟨rfl, k⟩
    replace hb := below_next hb k
    clear k
    (try clear hc hf)
    obtain ⟨hc, hf⟩ := bcell hb
    go_wp2_with fail
    refine (HS.out _).mono ?_
    rintro e w3 ⟨rfl, k⟩
    replace hb := below_next hb k
    clear k
    (try clear hc hf)
    obtain ⟨hc, hf⟩ := bcell hb
    go_wp2
    go_ret
    exact ⟨rfl, hb⟩
  | some F =>
    obtain ⟨hpo, hF⟩ : payOK l = true ∧ F = frameL l := by
      unfold frameOf at hE
      split at hE
      · exact ⟨‹_›, (Option.some.inj hE).symm⟩
      · cases hE
    have hp100 := (pay_parts hpo).2
    have hFl : F.length = l.length + 23 := by rw [hF, frame_len]
    have hFb : bitsOK F = true := by rw [hF]; exact frame_ok hpo
    have zF := str_size F
    have HI : Hid (∀ u : World, Calls Try.prog 39 #[.string (str l)] u fun e w' => e = .returned (.tuple #[.string (str F), .bool true]) ∧ Below u.heap.size u w') := fun u => by
      have hh := frameI_any (str l) u hm
      rw [str_list, hE] at hh
      exact hh
    have HS : Hid (∀ u : World, Calls Try.prog 40 #[.string (str l)] u fun e w' => e = .returned (.tuple #[.string (str F), .bool true]) ∧ Below u.heap.size u w') := fun u => by
      have hh := frameS_any (str l) u hm
      rw [str_list, hE] at hh
      exact hh
    have HF : Hid (∀ j, j < F.length → ∀ u : World, Calls Try.prog 24 #[.string (str F), .int .i64 (j : Int)] u fun e w' => e = .returned (.string (str (flipL F j))) ∧ Below u.heap.size u w') := Lib.hid fun j hj u => ssFlip_any F j u (by omega) hj (bitAt hFb j hj)
    have HP : Hid (∀ j, j < F.length → ∀ u : World, Calls Try.prog 41 #[.string (str (flipL F j)), .int .i64 0] u fun e w' => e = .returned (parRes (parseL (flipL F j) 0)) ∧ Below u.heap.size u w') := Lib.hid fun j hj u => by
      have := parseI_any (flipL F j) 0 u (by rw [flipL_len]; omega) (by omega) (by omega)
      have h2 := parse_yes 0 (flip_ok hFb hj) (Nat.zero_le _)
      rw [show ((0 : Nat) : Int) = 0 from rfl] at h2
      rw [h2] at this
      exact this
    have HN : Hid (∀ j, j < F.length → (j < 8 ∨ 15 ≤ j) → parseL (flipL F j) 0 = none) := Lib.hid fun j hj h => by rw [hF]; exact parse_changed hpo (by omega) h
    have hF600 : F.length ≤ 600 := by omega
    clear hE hF hFb hpo hFl
    go_wp2_with fail
    refine (HI.out _).mono ?_
    rintro e w2 ⟨rfl, k⟩
    replace hb := below_next hb k
    clear k
    (try clear hc hf)
    obtain ⟨hc, hf⟩ := bcell hb
    go_wp2_with fail
    refine (HS.out _).mono ?_
    rintro e w3 ⟨rfl, k⟩
    replace hb := below_next hb k
    clear k
    (try clear hc hf)
    obtain ⟨hc, hf⟩ := bcell hb
    clear hc hf
    go_wp2
    go_loopw [8, 9, 10, 11] (fun i _ _ _ wr => ∃ k : Nat, i = .int .i64 (k : Int) ∧ k ≤ F.length ∧ Below w.heap.size w wr) (fun i _ _ _ _ => F.length - (intOf i).toNat)
    case atStart => exact ⟨0, rfl, Nat.zero_le _, hb⟩
    case round =>
      clear hb
      obtain ⟨k, rfl, hk, hb⟩ := hrel
      by_cases hlt : k < F.length
      · have hfl := HF.out k hlt
        have hpa := HP.out k hlt
        have hno := HN.out k hlt
        generalize flipL F k = X at *
        by_cases h8 : k < 8 ∨ 15 ≤ k
        · rw [hno h8] at hpa
          have HFL := Lib.hid hfl
          have HPA : Hid (∀ u : World, Calls Try.prog 41 #[.string (str X), .int .i64 0] u fun e w' => e = .returned (.tuple #[.string ⟨#[]⟩, .int .i64 0, .bool false]) ∧ Below u.heap.size u w') := hpa
          clear hfl hpa hno
          go_wp2_with fail
          refine (HFL.out _).mono ?_
          rintro e w5 ⟨rfl, k⟩
          replace hb := below_next hb k
          clear k
          (try clear hc hf)
          obtain ⟨hc, hf⟩ := bcell hb
          go_wp2_with fail
          refine (HPA.out _).mono ?_
          rintro e w6 ⟨rfl, k⟩
          replace hb := below_next hb k
          clear k
          (try clear hc hf)
          obtain ⟨hc, hf⟩ := bcell hb
          go_wp2
          go_roundw
          case rel => exact ⟨k + 1, by go_num, by omega, hb⟩
          case measure => simp [intOf]; omega
        · obtain ⟨x1, x2, x3, hx⟩ := parRes_form (parseL X 0)
          rw [hx] at hpa
          have HFL := Lib.hid hfl
          have HPA := Lib.hid hpa
          have hd1 : decide ((k : Int) < 8) = false := by simp; omega
          have hd2 : decide (15 ≤ (k : Int)) = false := by simp; omega
          clear hfl hpa hno hx
          cases x3
          · go_wp2_with fail
            refine (HFL.out _).mono ?_
            rintro e w5 ⟨rfl, k⟩
            replace hb := below_next hb k
            clear k
            (try clear hc hf)
            obtain ⟨hc, hf⟩ := bcell hb
            go_wp2_with fail
            refine (HPA.out _).mono ?_
            rintro e w6 ⟨rfl, k⟩
            replace hb := below_next hb k
            clear k
            (try clear hc hf)
            obtain ⟨hc, hf⟩ := bcell hb
            go_wp2
            go_roundw
            case rel => exact ⟨k + 1, by go_num, by omega, hb⟩
            case measure => simp [intOf]; omega
          · go_wp2_with fail
            refine (HFL.out _).mono ?_
            rintro e w5 ⟨rfl, k⟩
            replace hb := below_next hb k
            clear k
            (try clear hc hf)
            obtain ⟨hc, hf⟩ := bcell hb
            go_wp2_with fail
            refine (HPA.out _).mono ?_
            rintro e w6 ⟨rfl, k⟩
            replace hb := below_next hb k
            clear k
            (try clear hc hf)
            obtain ⟨hc, hf⟩ := bcell hb
            go_wp2
            go_roundw
            case rel => exact ⟨k + 1, by go_num, by omega, hb⟩
            case measure => simp [intOf]; omega
      · go_wp2
        go_ret
        exact ⟨rfl, hb⟩
end Go.Proofs.Ytmfblphnedoejaa.fnFrameChange
