/- Contracts of frames: FrameOf on both sides. -/
import Derived.Test.YtfcnpbcnpielcaaCrc
namespace Go.Proofs.Ytfcnpbcnpielcaa
set_option maxRecDepth 20000
open Go.ChangeShapes Go.WideShapes Go.ChangeAt Go.RowKit
set_option linter.unusedVariables false
set_option linter.unusedSimpArgs false

def payOK (l : List UInt8) : Bool := bitsOK l && decide (l.length ≤ 100)
def mark8 : List UInt8 := [49, 49, 49, 48, 49, 48, 48, 48]
def innerL (p : List UInt8) : List UInt8 := binL p.length 7 ++ p
def frameL (p : List UInt8) : List UInt8 := mark8 ++ innerL p ++ crcL (innerL p)
def frameOf (p : List UInt8) : Option (List UInt8) := if payOK p then some (frameL p) else none
theorem frameOf_no {l : List UInt8} (h : payOK l = false) : frameOf l = none := if_neg (by simp [h])
theorem frameOf_yes {l : List UInt8} (h : payOK l = true) : frameOf l = some (frameL l) := if_pos h
theorem pay_parts {l : List UInt8} (h : payOK l = true) : bitsOK l = true ∧ l.length ≤ 100 := by
  unfold payOK at h; simp only [Bool.and_eq_true, decide_eq_true_eq] at h; exact h
theorem pay_mk {l : List UInt8} (h : bitsOK l = true) (h' : l.length ≤ 100) : payOK l = true := by simp [payOK, h, h']
theorem binL_all (x n : Nat) : (binL x n).all bit1 = true := by
  simp only [binL, List.all_eq_true, List.mem_map]
  rintro c ⟨i, _, rfl⟩
  exact digB_bit1 _ _
theorem bits_all {l : List UInt8} (h : bitsOK l = true) : l.all bit1 = true := by
  unfold bitsOK at h; simp only [Bool.and_eq_true] at h; exact h.2
theorem inner_len (p : List UInt8) : (innerL p).length = p.length + 7 := by simp [innerL, binL_len]; omega
theorem inner_bits {p : List UInt8} (h : payOK p = true) : bitsOK (innerL p) = true := by
  have hp := pay_parts h
  unfold bitsOK
  rw [inner_len]
  simp only [innerL, List.all_append, binL_all, bits_all hp.1, Bool.and_true, decide_eq_true_eq]
  omega
theorem crcL_len (l : List UInt8) : (crcL l).length = 8 := binL_len _ _
theorem frame_len (p : List UInt8) : (frameL p).length = p.length + 23 := by
  simp only [frameL, List.length_append, inner_len, crcL_len, mark8, List.length_cons, List.length_nil]; omega
theorem inner_str (p : List UInt8) : str (binL p.length 7) ++ str p = str (innerL p) := by rw [str_add]; rfl
theorem mark_str (p : List UInt8) : (⟨#[49, 49, 49, 48, 49, 48, 48, 48]⟩ : ByteArray) ++ str (innerL p) = str (mark8 ++ innerL p) := by rw [← str_add]; rfl
theorem frame_str (p : List UInt8) : str (mark8 ++ innerL p) ++ str (crcL (innerL p)) = str (frameL p) := by rw [str_add]; rfl
theorem payI_any (s : ByteArray) (w : World) (hs : s.size ≤ maxLen) :
    Calls Try.prog 41 #[.string s] w fun e w' => e = .returned (.bool (payOK s.data.toList)) ∧ w = w' := by
  have hh := hs
  unfold maxLen at hh
  by_cases h : s.size ≤ 100
  · have e : payOK s.data.toList = bitsOK s.data.toList := by simp [payOK, data_length, h]
    rw [e]
    go_enter Try.func41, Try.ntmps41
    go_wp2_with fail
    refine (isBits_any _ _ hs).mono ?_
    rintro e w' ⟨rfl, rfl⟩
    go_wp2
    go_ret
    exact ⟨rfl, rfl⟩
  · have e : payOK s.data.toList = false := by simp only [payOK, data_length, decide_eq_false h, Bool.and_false]
    rw [e]
    go_enter Try.func41, Try.ntmps41
    go_wp2
    go_ret
    exact ⟨rfl, rfl⟩
set_option maxHeartbeats 400000 in
theorem l6Frame_any (p : List UInt8) (w : World) (hp : payOK p = true) :
    Calls Try.prog 32 #[.string (str p)] w fun e w' => e = .returned (.string (str (frameL p))) ∧ Below w.heap.size w w' := by
  have h1 := (pay_parts hp).2
  have z0 : (str p).size = p.length := str_size _
  have z1 : (str (binL p.length 7)).size = 7 := by rw [str_size, binL_len]
  have z2 : (str (innerL p)).size = p.length + 7 := by rw [str_size, inner_len]
  have z3 : (str (mark8 ++ innerL p)).size = p.length + 15 := by rw [str_size, List.length_append, inner_len]; simp [mark8]; omega
  have z4 : (str (crcL (innerL p))).size = 8 := by rw [str_size, crcL_len]
  have e1 := inner_str p
  have e2 := mark_str p
  have e3 := frame_str p
  have HC := Lib.hid (fun u : World => (str_list (innerL p) ▸ l6Crc_any (str (innerL p)) u (by rw [str_list]; exact inner_bits hp) : Calls Try.prog 39 #[.string (str (innerL p))] u fun e w' => e = .returned (.string (str (crcL (innerL p)))) ∧ Below u.heap.size u w'))
  have HB := Lib.hid (fun u : World => binS_any p.length 7 u (by omega) (by omega))
  go_enter Try.func32, Try.ntmps32
  go_wp2_with fail
  refine (HB.out _).mono ?_
  rintro e w1 ⟨rfl, hb⟩
  go_wp2_with fail
  refine (HC.out _).mono ?_
  rintro e w2 ⟨rfl, k⟩
  replace hb := below_next hb k
  clear k
  go_wp2
  go_ret
  exact ⟨rfl, hb⟩
theorem frameI_yes (p : List UInt8) (w : World) (hp : payOK p = true) :
    Calls Try.prog 35 #[.string (str p)] w fun e w' => e = .returned (.tuple #[.string (str (frameL p)), .bool true]) ∧ Below w.heap.size w w' := by
  have h1 := (pay_parts hp).2
  have z0 : (str p).size = p.length := str_size _
  have z1 : (str (binL p.length 7)).size = 7 := by rw [str_size, binL_len]
  have z2 : (str (innerL p)).size = p.length + 7 := by rw [str_size, inner_len]
  have z3 : (str (mark8 ++ innerL p)).size = p.length + 15 := by rw [str_size, List.length_append, inner_len]; simp [mark8]; omega
  have z4 : (str (crcL (innerL p))).size = 8 := by rw [str_size, crcL_len]
  have e1 := inner_str p
  have e2 := mark_str p
  have e3 := frame_str p
  have HC := Lib.hid (fun u : World => (str_list (innerL p) ▸ crcI_yes (str (innerL p)) u (by rw [str_size, inner_len]; unfold maxLen; omega) (by rw [str_list]; exact inner_bits hp) : Calls Try.prog 43 #[.string (str (innerL p))] u fun e w' => e = .returned (.tuple #[.string (str (crcL (innerL p))), .bool true]) ∧ Below u.heap.size u w'))
  have HB := Lib.hid (fun u : World => binI_any p.length 7 u (by omega) (by omega))
  have HP := Lib.hid (fun u : World => (hp ▸ str_list p ▸ payI_any (str p) u (by rw [str_size]; unfold maxLen; omega) : Calls Try.prog 41 #[.string (str p)] u fun e w' => e = .returned (.bool true) ∧ u = w'))
  go_enter Try.func35, Try.ntmps35
  go_wp2_with fail
  refine (HP.out _).mono ?_
  rintro e w0 ⟨rfl, rfl⟩
  go_wp2_with fail
  refine (HB.out _).mono ?_
  rintro e w1 ⟨rfl, hb⟩
  go_wp2_with fail
  refine (HC.out _).mono ?_
  rintro e w2 ⟨rfl, k⟩
  replace hb := below_next hb k
  clear k
  go_wp2
  go_ret2
  exact ⟨rfl, hb⟩
theorem frameI_any (s : ByteArray) (w : World) (hs : s.size ≤ maxLen) :
    Calls Try.prog 35 #[.string s] w fun e w' => e = .returned (strRes (frameOf s.data.toList)) ∧ Below w.heap.size w w' := by
  cases hb : payOK s.data.toList
  · rw [frameOf_no hb]
    go_enter Try.func35, Try.ntmps35
    go_wp2_with fail
    refine (payI_any _ _ hs).mono ?_
    rintro e w' ⟨rfl, rfl⟩
    go_wp2
    go_ret2
    exact ⟨rfl, Below.refl _ _⟩
  · rw [frameOf_yes hb]
    exact (str_of s ▸ frameI_yes s.data.toList w hb : Calls Try.prog 35 #[.string s] w fun e w' => e = .returned (.tuple #[.string (str (frameL s.data.toList)), .bool true]) ∧ Below w.heap.size w w')
end Go.Proofs.Ytfcnpbcnpielcaa
