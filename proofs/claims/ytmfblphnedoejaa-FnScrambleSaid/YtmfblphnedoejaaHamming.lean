/- Contracts of the functions on Hamming blocks. -/
import Derived.Test.YtmfblphnedoejaaBits
import Derived.Test.YtmfblphnedoejaaPlain2
namespace Go.Proofs.Ytmfblphnedoejaa
set_option maxRecDepth 20000
open Go.ChangeShapes Go.WideShapes Go.ChangeAt Go.RowKit

set_option maxHeartbeats 400000 in
theorem synI_any (s : ByteArray) (w : World) (hs : s.size ≤ 600) :
    Calls Try.prog 75 #[.string s] w fun e w' => e = .returned (.int .i64 (synTo s.data.toList s.size)) ∧ w = w' := by
  go_enter Try.func75, Try.ntmps75
  go_wp2
  go_loop [3, 4, 7] (fun n _ i => ∃ k : Nat, k ≤ s.size ∧ i = .int .i64 k ∧ n = .int .i64 (synTo s.data.toList k)) (fun _ _ i => s.size - (intOf i).toNat)
  case atStart => exact ⟨0, Nat.zero_le _, rfl, rfl⟩
  case round =>
    obtain ⟨k, hk, rfl, rfl⟩ := hrel
    by_cases hlt : k < s.size
    · by_cases h9 : (s[k].toNat : Int) = 49
      · have HS := Lib.hid (synTo_yes s k hlt h9)
        have b1 : ((s[k].toNat : Int) == 49) = true := by simpa using h9
        have hx : bits .xor .i64 (synTo s.data.toList k : Int) ((k : Int) + 1) = ((synTo s.data.toList k ^^^ (k + 1) : Nat) : Int) := i64_xor_nat (synTo s.data.toList k) (k + 1) (by have := synTo_lt s.data.toList k (by omega); omega) (by omega)
        clear h9
        go_wp2
        go_round
        case rel => exact ⟨k + 1, by omega, by go_num, by rw [HS.out]⟩
        case measure => simp [intOf]; omega
      · have HS := Lib.hid (synTo_no s k hlt h9)
        have b1 : ((s[k].toNat : Int) == 49) = false := by simpa using h9
        clear h9
        go_wp2
        go_round
        case rel => exact ⟨k + 1, by omega, by go_num, by rw [HS.out]⟩
        case measure => simp [intOf]; omega
    · go_wp2
      go_ret
      exact ⟨by obtain rfl : k = s.size := by omega
                rfl, rfl⟩
set_option maxHeartbeats 400000 in
theorem synS_any (s : ByteArray) (w : World) (hs : s.size ≤ 600) :
    Calls Try.prog 76 #[.string s] w fun e w' => e = .returned (.int .i64 (synTo s.data.toList s.size)) ∧ w = w' := by
  go_enter Try.func76, Try.ntmps76
  go_wp2
  go_loop [3, 4] (fun n i => ∃ k : Nat, k ≤ s.size ∧ i = .int .i64 k ∧ n = .int .i64 (synTo s.data.toList k)) (fun _ i => s.size - (intOf i).toNat)
  case atStart => exact ⟨0, Nat.zero_le _, rfl, rfl⟩
  case round =>
    obtain ⟨k, hk, rfl, rfl⟩ := hrel
    by_cases hlt : k < s.size
    · by_cases h9 : (s[k].toNat : Int) = 49
      · have HS := Lib.hid (synTo_yes s k hlt h9)
        have b1 : ((s[k].toNat : Int) == 49) = true := by simpa using h9
        have hx : bits .xor .i64 (synTo s.data.toList k : Int) ((k : Int) + 1) = ((synTo s.data.toList k ^^^ (k + 1) : Nat) : Int) := i64_xor_nat (synTo s.data.toList k) (k + 1) (by have := synTo_lt s.data.toList k (by omega); omega) (by omega)
        clear h9
        go_wp2
        go_round
        case rel => exact ⟨k + 1, by omega, by go_num, by rw [HS.out]⟩
        case measure => simp [intOf]; omega
      · have HS := Lib.hid (synTo_no s k hlt h9)
        have b1 : ((s[k].toNat : Int) == 49) = false := by simpa using h9
        clear h9
        go_wp2
        go_round
        case rel => exact ⟨k + 1, by omega, by go_num, by rw [HS.out]⟩
        case measure => simp [intOf]; omega
    · go_wp2
      go_ret
      exact ⟨by obtain rfl : k = s.size := by omega
                rfl, rfl⟩

set_option maxHeartbeats 400000 in
theorem hsynI_any (s : ByteArray) (w : World) (hs : s.size ≤ maxLen) :
    Calls Try.prog 32 #[.string s] w fun e w' => e = .returned (.int .i64 (hsyn s.data.toList)) ∧ Below w.heap.size w w' := by
  cases hb : bitsOK s.data.toList
  · rw [hsyn_nb hb]
    go_enter Try.func32, Try.ntmps32
    go_wp2_with (go_at_call 62; refine (isBits_any _ _ hs).mono ?_; rintro e w' ⟨rfl, rfl⟩)
    go_ret
    exact ⟨rfl, Below.refl _ _⟩
  · by_cases h7 : s.size = 7
    · rw [hsyn_yes hb h7]
      have b1 : ((s.size : Int) != 7) = false := by simp [h7]
      have h8 : s.size ≤ 600 := by omega
      clear h7
      go_enter Try.func32, Try.ntmps32
      go_wp2_with (first | (go_at_call 62; refine (isBits_any _ _ hs).mono ?_; rintro e w' ⟨rfl, rfl⟩) | (go_at_call 75; refine (synI_any _ _ h8).mono ?_; rintro e w' ⟨rfl, rfl⟩))
      go_ret
      exact ⟨rfl, Below.refl _ _⟩
    · rw [hsyn_n7 h7]
      have b1 : ((s.size : Int) != 7) = true := by simp; omega
      clear h7
      go_enter Try.func32, Try.ntmps32
      go_wp2_with (go_at_call 62; refine (isBits_any _ _ hs).mono ?_; rintro e w' ⟨rfl, rfl⟩)
      go_ret
      exact ⟨rfl, Below.refl _ _⟩

set_option maxHeartbeats 400000 in
theorem hsynS_any (s : ByteArray) (w : World) (hs : s.size ≤ maxLen) :
    Calls Try.prog 33 #[.string s] w fun e w' => e = .returned (.int .i64 (hsyn s.data.toList)) ∧ Below w.heap.size w w' := by
  cases hb : bitsOK s.data.toList
  · rw [hsyn_nb hb]
    go_enter Try.func33, Try.ntmps33
    go_wp2_with (go_at_call 68; refine (l1Bits_any _ _ hs).mono ?_; rintro e w' ⟨rfl, rfl⟩)
    go_ret
    exact ⟨rfl, Below.refl _ _⟩
  · by_cases h7 : s.size = 7
    · rw [hsyn_yes hb h7]
      have b1 : ((s.size : Int) != 7) = false := by simp [h7]
      have h8 : s.size ≤ 600 := by omega
      clear h7
      go_enter Try.func33, Try.ntmps33
      go_wp2_with (first | (go_at_call 68; refine (l1Bits_any _ _ hs).mono ?_; rintro e w' ⟨rfl, rfl⟩) | (go_at_call 76; refine (synS_any _ _ h8).mono ?_; rintro e w' ⟨rfl, rfl⟩))
      go_ret
      exact ⟨rfl, Below.refl _ _⟩
    · rw [hsyn_n7 h7]
      have b1 : ((s.size : Int) != 7) = true := by simp; omega
      clear h7
      go_enter Try.func33, Try.ntmps33
      go_wp2_with (go_at_call 68; refine (l1Bits_any _ _ hs).mono ?_; rintro e w' ⟨rfl, rfl⟩)
      go_ret
      exact ⟨rfl, Below.refl _ _⟩
end Go.Proofs.Ytmfblphnedoejaa
