/- Contracts of the functions that look at strings of bits, and of the validity tests. -/
import Derived.Test.YtiiiaeemblcniaaPlain
namespace Go.Proofs.Ytiiiaeemblcniaa
set_option maxRecDepth 20000
open Go.ChangeShapes Go.WideShapes Go.ChangeAt Go.RowKit

set_option maxHeartbeats 400000 in
theorem isBits_any (s : ByteArray) (w : World) (hs : s.size ≤ maxLen) :
    Calls Try.prog 43 #[.string s] w fun e w' => e = .returned (.bool (bitsOK s.data.toList)) ∧ w = w' := by
  unfold maxLen at hs
  by_cases h6 : s.size ≤ 600
  · go_enter Try.func43, Try.ntmps43
    go_wp2
    go_loop [3, 9] (fun _ i => ∃ k : Nat, k ≤ s.size ∧ i = .int .i64 k ∧ (s.data.toList.take k).all bit1 = true) (fun _ i => s.size - (intOf i).toNat)
    case atStart => exact ⟨0, Nat.zero_le _, rfl, rfl⟩
    case round =>
      obtain ⟨k, hk, rfl, hall⟩ := hrel
      have HA := Lib.hid hall
      clear hall
      by_cases hlt : k < s.size
      · by_cases h8 : (s[k].toNat : Int) = 48
        · have H8 := Lib.hid h8
          have b1 : ((s[k].toNat : Int) == 48) = true := by simpa using h8
          have b2 : ((s[k].toNat : Int) != 48) = false := by simpa using h8
          clear h8
          go_wp2
          go_round
          case rel => exact ⟨k + 1, by omega, by go_num, all_snoc s k hlt HA.out (bit1_yes (.inl H8.out))⟩
          case measure => simp [intOf]; omega
        · by_cases h9 : (s[k].toNat : Int) = 49
          · have H9 := Lib.hid h9
            have b1 : ((s[k].toNat : Int) != 48) = true := by simpa using h8
            have b2 : ((s[k].toNat : Int) != 49) = false := by simpa using h9
            clear h8 h9
            go_wp2
            go_round
            case rel => exact ⟨k + 1, by omega, by go_num, all_snoc s k hlt HA.out (bit1_yes (.inr H9.out))⟩
            case measure => simp [intOf]; omega
          · have H8 := Lib.hid h8
            have H9 := Lib.hid h9
            have b1 : ((s[k].toNat : Int) != 48) = true := by simpa using h8
            have b2 : ((s[k].toNat : Int) != 49) = true := by simpa using h9
            clear h8 h9
            go_wp2
            go_ret
            exact ⟨ret_bool (bits_not s k hlt (bit1_no H8.out H9.out)).symm, rfl⟩
      · go_wp2
        go_ret
        exact ⟨ret_bool (by obtain rfl : k = s.size := by omega
                            rw [bits_of s HA.out, decide_eq_true h6]), rfl⟩
  · go_enter Try.func43, Try.ntmps43
    go_wp2
    go_ret
    exact ⟨ret_bool (bits_long s h6).symm, rfl⟩

set_option maxHeartbeats 400000 in
theorem l1Bits_any (s : ByteArray) (w : World) (hs : s.size ≤ maxLen) :
    Calls Try.prog 45 #[.string s] w fun e w' => e = .returned (.bool (bitsOK s.data.toList)) ∧ w = w' := by
  unfold maxLen at hs
  go_enter Try.func45, Try.ntmps45
  go_wp2
  go_loop [3] (fun i => ∃ k : Nat, k ≤ s.size ∧ i = .int .i64 k ∧ (s.data.toList.take k).all bit1 = true) (fun i => s.size - (intOf i).toNat)
  case atStart => exact ⟨0, Nat.zero_le _, rfl, rfl⟩
  case round =>
    obtain ⟨k, hk, rfl, hall⟩ := hrel
    have HA := Lib.hid hall
    clear hall
    by_cases hlt : k < s.size
    · by_cases h8 : (s[k].toNat : Int) = 48
      · have H8 := Lib.hid h8
        have b1 : ((s[k].toNat : Int) == 48) = true := by simpa using h8
        have b2 : ((s[k].toNat : Int) != 48) = false := by simpa using h8
        clear h8
        go_wp2
        go_round
        case rel => exact ⟨k + 1, by omega, by go_num, all_snoc s k hlt HA.out (bit1_yes (.inl H8.out))⟩
        case measure => simp [intOf]; omega
      · by_cases h9 : (s[k].toNat : Int) = 49
        · have H9 := Lib.hid h9
          have b1 : ((s[k].toNat : Int) != 48) = true := by simpa using h8
          have b2 : ((s[k].toNat : Int) != 49) = false := by simpa using h9
          clear h8 h9
          go_wp2
          go_round
          case rel => exact ⟨k + 1, by omega, by go_num, all_snoc s k hlt HA.out (bit1_yes (.inr H9.out))⟩
          case measure => simp [intOf]; omega
        · have H8 := Lib.hid h8
          have H9 := Lib.hid h9
          have b1 : ((s[k].toNat : Int) != 48) = true := by simpa using h8
          have b2 : ((s[k].toNat : Int) != 49) = true := by simpa using h9
          clear h8 h9
          go_wp2
          go_ret
          exact ⟨ret_bool (bits_not s k hlt (bit1_no H8.out H9.out)).symm, rfl⟩
    · go_wp2
      go_ret
      exact ⟨ret_bool (by obtain rfl : k = s.size := by omega
                          rw [bits_of s HA.out]; simp; omega), rfl⟩
theorem l1In_any (a b c : Int) (w : World) :
    Calls Try.prog 41 #[.int .i64 a, .int .i64 b, .int .i64 c] w fun e w' => e = .returned (.bool (inB a b c)) ∧ w = w' := by
  by_cases h : b ≤ a
  · have h1 : decide (b ≤ a) = true := by simpa using h
    by_cases h' : a ≤ c
    · have h2 : decide (a ≤ c) = true := by simpa using h'
      go_enter Try.func41, Try.ntmps41
      go_wp2
      go_ret
      exact ⟨ret_bool (inB_yes h h').symm, rfl⟩
    · have h2 : decide (a ≤ c) = false := by simpa using h'
      go_enter Try.func41, Try.ntmps41
      go_wp2
      go_ret
      exact ⟨ret_bool (inB_no (by omega)).symm, rfl⟩
  · have h1 : decide (b ≤ a) = false := by simpa using h
    go_enter Try.func41, Try.ntmps41
    go_wp2
    go_ret
    exact ⟨ret_bool (inB_no (by omega)).symm, rfl⟩

theorem seqOK_short {s : ByteArray} (h : ¬ 1 ≤ s.size) : seqOK s.data.toList = false := by
  unfold seqOK; rw [data_length]; simp only [Bool.and_eq_false_iff, decide_eq_false_iff_not]; omega
theorem seqOK_long {s : ByteArray} (h : ¬ s.size ≤ 255) : seqOK s.data.toList = false := by
  unfold seqOK; rw [data_length]; simp only [Bool.and_eq_false_iff, decide_eq_false_iff_not]; omega
theorem seqOK_in {s : ByteArray} (h : 1 ≤ s.size) (h' : s.size ≤ 255) : seqOK s.data.toList = bitsOK s.data.toList := by
  unfold seqOK; rw [data_length]; simp only [h, h', decide_true, Bool.and_true]
set_option maxHeartbeats 400000 in
theorem seqI_any (s : ByteArray) (w : World) (hs : s.size ≤ maxLen) :
    Calls Try.prog 39 #[.string s] w fun e w' => e = .returned (.bool (seqOK s.data.toList)) ∧ w = w' := by
  have hs' := hs
  unfold maxLen at hs
  by_cases h : 1 ≤ s.size
  · by_cases h' : s.size ≤ 255
    · rw [seqOK_in h h']
      go_enter Try.func39, Try.ntmps39
      go_wp2_with (go_at_call 43; refine (isBits_any _ _ hs').mono ?_; rintro e w' ⟨rfl, rfl⟩)
      go_ret
      exact ⟨rfl, rfl⟩
    · rw [seqOK_long h']
      go_enter Try.func39, Try.ntmps39
      go_wp2
      go_ret
      exact ⟨rfl, rfl⟩
  · rw [seqOK_short h]
    go_enter Try.func39, Try.ntmps39
    go_wp2
    go_ret
    exact ⟨rfl, rfl⟩

theorem seqOK_and (s : ByteArray) : seqOK s.data.toList = (bitsOK s.data.toList && inB s.size 1 255) := by
  unfold seqOK inB; rw [data_length, Bool.and_assoc]
  congr 2
  · exact decide_eq_decide.2 (by omega)
  · exact decide_eq_decide.2 (by omega)
set_option maxHeartbeats 400000 in
theorem seqS_any (s : ByteArray) (w : World) (hs : s.size ≤ maxLen) :
    Calls Try.prog 65 #[.string s] w fun e w' => e = .returned (.bool (seqOK s.data.toList)) ∧ w = w' := by
  rw [seqOK_and]
  cases hb : bitsOK s.data.toList
  · go_enter Try.func65, Try.ntmps65
    go_wp2_with (go_at_call 45; refine (l1Bits_any _ _ hs).mono ?_; rintro e w' ⟨rfl, rfl⟩)
    go_ret
    exact ⟨rfl, rfl⟩
  · go_enter Try.func65, Try.ntmps65
    go_wp2_with (first | (go_at_call 45; refine (l1Bits_any _ _ hs).mono ?_; rintro e w' ⟨rfl, rfl⟩) | (go_at_call 41; refine (l1In_any _ _ _ _).mono ?_; rintro e w' ⟨rfl, rfl⟩))
    go_ret
    exact ⟨ret_bool (by simp), rfl⟩

end Go.Proofs.Ytiiiaeemblcniaa
