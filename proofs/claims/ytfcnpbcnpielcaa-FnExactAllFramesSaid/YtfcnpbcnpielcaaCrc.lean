/- Contracts of check bits and of binary digits. -/
import Derived.Test.YtfcnpbcnpielcaaDiffE
namespace Go.Proofs.Ytfcnpbcnpielcaa
set_option maxRecDepth 20000
open Go.ChangeShapes Go.WideShapes Go.ChangeAt Go.RowKit
set_option linter.unusedVariables false
set_option linter.unusedSimpArgs false

/-- the binary digits of x, n of them, the highest first -/
def digB (x j : Nat) : UInt8 := if x / 2 ^ j % 2 = 0 then 48 else 49
def binL (x n : Nat) : List UInt8 := (List.range n).map fun i => digB x (n - 1 - i)
theorem binL_len (x n : Nat) : (binL x n).length = n := by simp [binL]
theorem binL_getD (x n j : Nat) (h : j < n) : (binL x n).getD j 0 = digB x (n - 1 - j) := by simp [binL, List.getD_eq_getElem?_getD, h]
theorem digB_bit1 (x j : Nat) : bit1 (digB x j) = true := by unfold digB; split <;> rfl
theorem dig_and (x j : Nat) (hx : x < 65536) : bits .and .i64 ((x : Int) / 2 ^ j) 1 = ((x / 2 ^ j % 2 : Nat) : Int) := by
  have e : (x : Int) / 2 ^ j = ((x / 2 ^ j : Nat) : Int) := by simp
  have h : x / 2 ^ j ≤ x := Nat.div_le_self _ _
  rw [e, show (1 : Int) = ((1 : Nat) : Int) from rfl, i64_and_nat _ _ (by omega) (by omega), Nat.and_one_is_mod]
theorem bitB_dig (x j : Nat) : bitB ((x : Int) / 2 ^ j % 2) = ((digB x j).toNat : Int) := by
  have e : (x : Int) / 2 ^ j % 2 = ((x / 2 ^ j % 2 : Nat) : Int) := by simp
  rw [e]
  unfold bitB digB
  by_cases h : x / 2 ^ j % 2 = 0
  · rw [if_pos h, if_pos (by omega)]; rfl
  · rw [if_neg h, if_neg (by omega)]; rfl
set_option maxHeartbeats 400000 in
theorem binI_any (x n : Nat) (w : World) (hx : x < 65536) (hn : n ≤ 16) :
    Calls Try.prog 42 #[.int .i64 x, .int .i64 n] w fun e w' => e = .returned (.string (str (binL x n))) ∧ Below w.heap.size w w' := by
  have hmk := fun u => run_make_row' (P := Try.prog) 48 5 (.int .u8 0) 1 Try.underlying48 info_u8 rfl .i64 .i64 n (by omega) (by omega) u
  go_enter Try.func42, Try.ntmps42
  go_wp2
  go_loopw [6, 11] (fun _ i wr => ∃ k : Nat, k ≤ n ∧ i = .int .i64 k ∧ wr.rowIs w.heap.size 5 n (fun j => if j < k then .int .u8 (digB x (n - 1 - j)).toNat else .int .u8 0) ∧ Below w.heap.size w wr) (fun _ i _ => n - (intOf i).toNat)
  case atStart => exact ⟨0, Nat.zero_le _, rfl, (World.rowIs_made w _ _ _).congr (fun _ _ => rfl), (Below.refl _ _).alloc (Nat.le_refl _) _⟩
  case round =>
    obtain ⟨k, hk, rfl, hrow, hb⟩ := hrel
    clear hmk
    by_cases hlt : k < n
    · have hc := hrow.cell hlt
      have hf := hrow.frozen k
      have HA := Lib.hid (dig_and x (n - 1 - k) hx)
      have HB := Lib.hid (bitB_dig x (n - 1 - k))
      go_wp2_with fail
      rw [HA.out]
      refine (bitOf_any _ _).mono ?_
      rintro e w' ⟨rfl, rfl⟩
      go_wp2
      go_roundw
      case rel => exact ⟨k + 1, by omega, by go_num, row_next hrow (by rw [HB.out]), hb.setCell (Nat.le_refl _) _⟩
      case measure => simp [intOf]; omega
    · obtain rfl : k = n := by omega
      have hconv := conv_row (P := Try.prog) (src := 48) (dst := 9) (binL x k) (n := k) (by rw [binL_len]) (Nat.le_refl _) hrow (fun j hj => by rw [if_pos hj, binL_getD _ _ _ hj]) Try.underlying48 Try.underlying5 Try.underlying9
      clear hrow
      go_wp2
      go_ret
      exact ⟨rfl, hb⟩
theorem str_nil (l : List UInt8) : str l ++ (⟨#[]⟩ : ByteArray) = str l := by
  have : (⟨#[]⟩ : ByteArray) = str [] := rfl
  rw [this, str_add, List.append_nil]
/-- the byte of a digit -/
def digC (d : Nat) : UInt8 := UInt8.ofNat (48 + d)
/-- a digit below ten as a text -/
theorem dec1_any (d : Nat) (w : World) (h : d ≤ 9) : Calls Try.prog 45 #[.int .i64 d] w fun e w' => e = .returned (.string (str [digC d])) ∧ Below w.heap.size w w' := by
  have hcv : ∀ u : World, (convert 48 9 (.slice (some ⟨u.heap.size, 0, none⟩) 1 1)).run Try.prog (u.alloc (.cells #[.int .u8 (48 + (d : Int))] 5)) = .ok (.string (str [digC d])) (u.alloc (.cells #[.int .u8 (48 + (d : Int))] 5)) := by
    intro u
    have ho := Own.lit (w := u) (B := u.heap.size) 5 #[.int .u8 (48 + (d : Int))] 1 (Nat.le_refl _) (by unfold maxLen; omega) rfl
    refine conv_own (P := Try.prog) [digC d] rfl (B := u.heap.size) ?_ Try.underlying48 Try.underlying5 Try.underlying9
    have e : ([digC d] : List UInt8).map byteV = [.int .u8 (48 + (d : Int))] := by
      simp only [List.map_cons, List.map_nil, byteV, digC]
      congr 2
      rw [UInt8.toNat_ofNat', Nat.mod_eq_of_lt (by omega)]
      omega
    rw [e]
    exact ho
  have n1 : decide ((d : Int) < -9223372036854775807) = false := decide_eq_false (by omega)
  have n2 : decide ((d : Int) < 0) = false := decide_eq_false (by omega)
  have n3 : decide ((9 : Int) < (d : Int)) = false := decide_eq_false (by omega)
  go_enter Try.func45, Try.ntmps45
  go_wp2
  go_loop [0, 3] (fun a v => a = .int .i64 d ∧ v = .string ⟨#[]⟩) (fun _ _ => 0)
  case atStart => exact ⟨rfl, rfl⟩
  case round =>
    obtain ⟨rfl, rfl⟩ := hrel
    go_wp2
    go_ret
    exact ⟨by rw [str_nil]; rfl, (Below.refl _ _).alloc (Nat.le_refl _) _⟩
theorem digB_ofNat (x : Nat) : digC (x % 2) = digB x 0 := by
  unfold digB digC
  rw [Nat.pow_zero, Nat.div_one]
  rcases Nat.mod_two_eq_zero_or_one x with h | h <;> rw [h] <;> rfl
theorem dec2_any (y : Nat) (w : World) : Calls Try.prog 45 #[.int .i64 ((y : Int) % 2)] w fun e w' => e = .returned (.string (str [digB y 0])) ∧ Below w.heap.size w w' := by
  have h := dec1_any (y % 2) w (by omega)
  rw [digB_ofNat, Int.natCast_emod] at h
  exact h
/-- the last k digits of x -/
theorem binL_next (x k : Nat) : str [digB (x / 2 ^ k) 0] ++ str (binL x k) = str (binL x (k + 1)) := by
  rw [str_add]
  congr 1
  apply List.ext_getElem
  · simp [binL]
  · intro i h1 h2
    cases i with
    | zero =>
      simp only [List.singleton_append, List.getElem_cons_zero, binL, List.getElem_map, List.getElem_range]
      unfold digB
      rw [Nat.pow_zero, Nat.div_one, show k + 1 - 1 - 0 = k by omega]
    | succ i =>
      simp only [List.singleton_append, List.getElem_cons_succ, binL, List.getElem_map, List.getElem_range]
      rw [show k + 1 - 1 - (i + 1) = k - 1 - i by omega]
set_option maxHeartbeats 400000 in
theorem binS_any (x n : Nat) (w : World) (hx : x < 65536) (hn : n ≤ 16) :
    Calls Try.prog 38 #[.int .i64 x, .int .i64 n] w fun e w' => e = .returned (.string (str (binL x n))) ∧ Below w.heap.size w w' := by
  go_enter Try.func38, Try.ntmps38
  go_wp2
  go_loopw [0, 5, 6] (fun a v i wr => ∃ k : Nat, k ≤ n ∧ i = .int .i64 k ∧ a = .int .i64 ((x / 2 ^ k : Nat) : Int) ∧ v = .string (str (binL x k)) ∧ Below w.heap.size w wr) (fun _ _ i _ => n - (intOf i).toNat)
  case atStart => exact ⟨0, Nat.zero_le _, rfl, by rw [Nat.pow_zero, Nat.div_one], rfl, Below.refl _ _⟩
  case round =>
    obtain ⟨k, hk, rfl, rfl, rfl, hb⟩ := hrel
    by_cases hlt : k < n
    · obtain ⟨y, hy⟩ : ∃ y, y = x / 2 ^ k := ⟨_, rfl⟩
      have hy1 : y ≤ x := by rw [hy]; exact Nat.div_le_self _ _
      have HN := Lib.hid (binL_next x k)
      have HY : y / 2 = x / 2 ^ (k + 1) := by rw [hy, Nat.div_div_eq_div_mul, Nat.pow_succ]
      have HY := Lib.hid HY
      rw [← hy] at HN ⊢
      clear hy
      have z1 : (str (binL x k)).size ≤ 16 := by rw [str_size, binL_len]; omega
      have z2 : (str [digB y 0]).size ≤ 1 := by rw [str_size]; simp
      have HD := Lib.hid (fun u : World => dec2_any y u)
      go_wp2_with fail
      refine (HD.out _).mono ?_
      rintro e w1 ⟨rfl, k1⟩
      replace hb := below_next hb k1
      clear k1
      go_wp2
      go_roundw
      case rel => exact ⟨k + 1, by omega, by go_num, by rw [← HY.out]; go_num, by rw [← HN.out], hb⟩
      case measure => simp [intOf]; omega
    · obtain rfl : k = n := by omega
      go_wp2
      go_ret
      exact ⟨rfl, hb⟩
/-- one step of the check bits -/
def crcStep (x : Nat) (c : UInt8) : Nat := if (c == 49) != decide (128 ≤ x) then x * 2 % 256 ^^^ 7 else x * 2 % 256
def crcTo (l : List UInt8) : Nat → Nat
  | 0 => 0
  | k + 1 => crcStep (crcTo l k) (l.getD k 0)
theorem crcStep_lt (x : Nat) (c : UInt8) : crcStep x c < 256 := by
  unfold crcStep
  split
  · exact Nat.xor_lt_two_pow (n := 8) (by omega) (by omega)
  · omega
theorem crcTo_lt (l : List UInt8) (k : Nat) : crcTo l k < 256 := by
  cases k with
  | zero => simp [crcTo]
  | succ k => exact crcStep_lt _ _
def crcL (l : List UInt8) : List UInt8 := binL (crcTo l l.length) 8
/-- what CrcOf returns -/
def crcOf (l : List UInt8) : Option (List UInt8) := if bitsOK l then some (crcL l) else none
theorem crcOf_no {l : List UInt8} (h : bitsOK l = false) : crcOf l = none := if_neg (by simp [h])
theorem crcOf_yes {l : List UInt8} (h : bitsOK l = true) : crcOf l = some (crcL l) := if_pos h
theorem crc_xor (x : Nat) : bits .xor .i64 ((x : Int) * 2 % 256) 7 = ((x * 2 % 256 ^^^ 7 : Nat) : Int) := by
  have e : (x : Int) * 2 % 256 = ((x * 2 % 256 : Nat) : Int) := by simp
  rw [e, show (7 : Int) = ((7 : Nat) : Int) from rfl, i64_xor_nat _ _ (by omega) (by omega)]
theorem crc_and (x : Nat) (hx : x < 256) : bits .and .i64 ((x : Int) * 2) 255 = (x : Int) * 2 % 256 := by
  have e : (x : Int) * 2 = ((x * 2 : Nat) : Int) := by simp
  rw [e, show (255 : Int) = ((255 : Nat) : Int) from rfl, i64_and_nat _ _ (by omega) (by omega)]
  have := Nat.and_two_pow_sub_one_eq_mod (x * 2) 8
  simp only [Nat.reducePow, Nat.reduceSub] at this
  rw [this]
  simp
theorem xor00 : bits .xor .i64 0 0 = 0 := by decide +kernel
theorem xor01 : bits .xor .i64 0 1 = 1 := by decide +kernel
theorem xor10 : bits .xor .i64 1 0 = 1 := by decide +kernel
theorem xor11 : bits .xor .i64 1 1 = 0 := by decide +kernel
/-- the four ways of a round: the bit, the test of the step, the result -/
theorem crc_ways (s : ByteArray) (k : Nat) (h : k < s.size) (hb : bit s[k]) :
    ∃ (b q : Int), (s[k].toNat : Int) = 48 + b ∧ (b = 0 ∨ b = 1) ∧ (q = 0 ∨ q = 1) ∧ ((crcTo s.data.toList k : Nat) : Int) / 128 = q ∧
      ((b = q ∧ crcTo s.data.toList (k + 1) = crcTo s.data.toList k * 2 % 256) ∨ (b ≠ q ∧ crcTo s.data.toList (k + 1) = crcTo s.data.toList k * 2 % 256 ^^^ 7)) := by
  have hx := crcTo_lt s.data.toList k
  have e : crcTo s.data.toList (k + 1) = crcStep (crcTo s.data.toList k) s[k] := by rw [← getD_at s k h]; rfl
  rw [e]
  generalize crcTo s.data.toList k = x at *
  unfold crcStep
  by_cases h1 : 128 ≤ x
  · rcases hb with hb | hb
    · refine ⟨0, 1, by rw [hb]; rfl, .inl rfl, .inr rfl, by omega, .inr ⟨by omega, ?_⟩⟩
      rw [hb, if_pos (by simp [h1])]
    · refine ⟨1, 1, by rw [hb]; rfl, .inr rfl, .inr rfl, by omega, .inl ⟨rfl, ?_⟩⟩
      rw [hb, if_neg (by simp [h1])]
  · rcases hb with hb | hb
    · refine ⟨0, 0, by rw [hb]; rfl, .inl rfl, .inl rfl, by omega, .inl ⟨rfl, ?_⟩⟩
      rw [hb, if_neg (by simp [h1])]
    · refine ⟨1, 0, by rw [hb]; rfl, .inr rfl, .inl rfl, by omega, .inr ⟨by omega, ?_⟩⟩
      rw [hb, if_pos (by simp [h1])]
set_option maxHeartbeats 1000000 in
theorem crcI_yes (s : ByteArray) (w : World) (hs : s.size ≤ maxLen) (hb : bitsOK s.data.toList = true) :
    Calls Try.prog 43 #[.string s] w fun e w' => e = .returned (.tuple #[.string (str (crcL s.data.toList)), .bool true]) ∧ Below w.heap.size w w' := by
  have h6 := bits_le_size hb
  have HB := Lib.hid (bits_bit hb)
  go_enter Try.func43, Try.ntmps43
  go_wp2_with fail
  refine (isBits_any _ _ hs).mono ?_
  rintro e w' ⟨rfl, rfl⟩
  go_wp2
  go_loop [4, 5, 6, 12] (fun x _ _ i => ∃ k : Nat, k ≤ s.size ∧ i = .int .i64 k ∧ x = .int .i64 (crcTo s.data.toList k)) (fun _ _ _ i => s.size - (intOf i).toNat)
  case atStart => exact ⟨0, Nat.zero_le _, rfl, rfl⟩
  case round =>
    obtain ⟨k, hk, rfl, rfl⟩ := hrel
    have hx := crcTo_lt s.data.toList k
    by_cases hlt : k < s.size
    · obtain ⟨b, q, hc, h0, h1, hq, hw⟩ := crc_ways s k hlt (HB.out k hlt)
      have a1 := crc_and (crcTo s.data.toList k) hx
      have a2 := crc_xor (crcTo s.data.toList k)
      have x0 := xor00
      have x1 := xor01
      have x2 := xor10
      have x3 := xor11
      have HW := Lib.hid hw
      clear hw
      rcases h0 with rfl | rfl <;> rcases h1 with rfl | rfl
      all_goals
        go_wp2
        go_round
        case rel =>
          refine ⟨k + 1, by omega, by go_num, ?_⟩
          rcases HW.out with ⟨h1, h2⟩ | ⟨h1, h2⟩
          · first | (exfalso; omega) | (rw [h2]; go_num)
          · first | (exfalso; omega) | (rw [h2])
        case measure => simp [intOf]; omega
    · obtain rfl : k = s.size := by omega
      go_wp2_with fail
      refine (binI_any _ 8 _ (by omega) (by omega)).mono ?_
      rintro e w1 ⟨rfl, k1⟩
      go_wp2
      go_ret2
      exact ⟨by unfold crcL; rw [data_length]; rfl, k1⟩
theorem crcI_any (s : ByteArray) (w : World) (hs : s.size ≤ maxLen) :
    Calls Try.prog 43 #[.string s] w fun e w' => e = .returned (strRes (crcOf s.data.toList)) ∧ Below w.heap.size w w' := by
  cases hb : bitsOK s.data.toList
  · rw [crcOf_no hb]
    go_enter Try.func43, Try.ntmps43
    go_wp2_with fail
    refine (isBits_any _ _ hs).mono ?_
    rintro e w' ⟨rfl, rfl⟩
    go_wp2
    go_ret2
    exact ⟨rfl, Below.refl _ _⟩
  · rw [crcOf_yes hb]
    exact crcI_yes s w hs hb
set_option maxHeartbeats 1000000 in
theorem l6Crc_any (s : ByteArray) (w : World) (hb : bitsOK s.data.toList = true) :
    Calls Try.prog 39 #[.string s] w fun e w' => e = .returned (.string (str (crcL s.data.toList))) ∧ Below w.heap.size w w' := by
  have h6 := bits_le_size hb
  have HB := Lib.hid (bits_bit hb)
  go_enter Try.func39, Try.ntmps39
  go_wp2
  go_loop [3, 4, 5] (fun x i _ => ∃ k : Nat, k ≤ s.size ∧ i = .int .i64 k ∧ x = .int .i64 (crcTo s.data.toList k)) (fun _ i _ => s.size - (intOf i).toNat)
  case atStart => exact ⟨0, Nat.zero_le _, rfl, rfl⟩
  case round =>
    obtain ⟨k, hk, rfl, rfl⟩ := hrel
    have hx := crcTo_lt s.data.toList k
    by_cases hlt : k < s.size
    · obtain ⟨b, q, hc, h0, h1, hq, hw⟩ := crc_ways s k hlt (HB.out k hlt)
      have a2 := crc_xor (crcTo s.data.toList k)
      have x0 := xor00
      have x1 := xor01
      have x2 := xor10
      have x3 := xor11
      have HW := Lib.hid hw
      clear hw
      rcases h0 with rfl | rfl <;> rcases h1 with rfl | rfl
      all_goals
        go_wp2
        go_round
        case rel =>
          refine ⟨k + 1, by omega, by go_num, ?_⟩
          rcases HW.out with ⟨h1, h2⟩ | ⟨h1, h2⟩
          · first | (exfalso; omega) | (rw [h2]; go_num)
          · first | (exfalso; omega) | (rw [h2])
        case measure => simp [intOf]; omega
    · obtain rfl : k = s.size := by omega
      go_wp2_with fail
      refine (binS_any _ 8 _ (by omega) (by omega)).mono ?_
      rintro e w1 ⟨rfl, k1⟩
      go_wp2
      go_ret
      exact ⟨by unfold crcL; rw [data_length]; rfl, k1⟩
end Go.Proofs.Ytfcnpbcnpielcaa
