/- Plain facts on bits of numbers and on the syndrome; no program is in sight here. -/
import Derived.Test.YtiiiaeemblcniaaPlain
import Derived.Laws.BitsAllLaws
import Derived.Laws.BitsLemmas
namespace Go.Proofs.Ytiiiaeemblcniaa
set_option maxRecDepth 20000
open Go.RowKit

theorem ofInt_i64 (a : Nat) (ha : a < 9223372036854775808) : (BitVec.ofInt 64 (a : Int)).toNat = a := by
  rw [BitVec.ofInt_natCast, BitVec.toNat_ofNat]; exact Nat.mod_eq_of_lt (by omega)
theorem i64_and_nat (a b : Nat) (ha : a < 9223372036854775808) (hb : b < 9223372036854775808) : bits .and .i64 (a : Int) (b : Int) = ((a &&& b : Nat) : Int) := by
  have hx : a &&& b < 2 ^ 63 := Nat.and_lt_two_pow _ (by omega)
  show IntKind.i64.wrap ((BitVec.ofInt 64 (a : Int) &&& BitVec.ofInt 64 (b : Int)).toNat : Int) = _
  rw [BitVec.toNat_and, ofInt_i64 a ha, ofInt_i64 b hb, IntKind.wrap_i64]
  omega
theorem i64_or_nat (a b : Nat) (ha : a < 9223372036854775808) (hb : b < 9223372036854775808) : bits .or .i64 (a : Int) (b : Int) = ((a ||| b : Nat) : Int) := by
  have hx : a ||| b < 2 ^ 63 := Nat.or_lt_two_pow (by omega) (by omega)
  show IntKind.i64.wrap ((BitVec.ofInt 64 (a : Int) ||| BitVec.ofInt 64 (b : Int)).toNat : Int) = _
  rw [BitVec.toNat_or, ofInt_i64 a ha, ofInt_i64 b hb, IntKind.wrap_i64]
  omega
theorem i64_xor_nat (a b : Nat) (ha : a < 9223372036854775808) (hb : b < 9223372036854775808) : bits .xor .i64 (a : Int) (b : Int) = ((a ^^^ b : Nat) : Int) := by
  have hx : a ^^^ b < 2 ^ 63 := Nat.xor_lt_two_pow (by omega) (by omega)
  show IntKind.i64.wrap ((BitVec.ofInt 64 (a : Int) ^^^ BitVec.ofInt 64 (b : Int)).toNat : Int) = _
  rw [BitVec.toNat_xor, ofInt_i64 a ha, ofInt_i64 b hb, IntKind.wrap_i64]
  omega

/-- the syndrome of the first k bits -/
def synTo (l : List UInt8) : Nat → Nat
  | 0 => 0
  | k + 1 => if l.getD k 0 = 49 then synTo l k ^^^ (k + 1) else synTo l k
theorem synTo_lt (l : List UInt8) (k : Nat) (h : k < 1024) : synTo l k < 1024 := by
  induction k with
  | zero => simp [synTo]
  | succ k ih =>
    simp only [synTo]
    split
    · exact Nat.xor_lt_two_pow (n := 10) (ih (by omega)) h
    · exact ih (by omega)
theorem getD_at (s : ByteArray) (k : Nat) (h : k < s.size) : s.data.toList.getD k 0 = s[k] := by
  rw [List.getD_eq_getElem?_getD, List.getElem?_eq_getElem (by simpa using h)]; rfl
theorem synTo_yes (s : ByteArray) (k : Nat) (h : k < s.size) (h9 : (s[k].toNat : Int) = 49) : synTo s.data.toList (k + 1) = synTo s.data.toList k ^^^ (k + 1) := by
  rw [synTo, getD_at s k h, if_pos (byte_49.2 h9)]
theorem synTo_no (s : ByteArray) (k : Nat) (h : k < s.size) (h9 : ¬ (s[k].toNat : Int) = 49) : synTo s.data.toList (k + 1) = synTo s.data.toList k := by
  rw [synTo, getD_at s k h, if_neg (mt byte_49.1 h9)]
/-- what HammingSyndrome returns -/
def hsyn (l : List UInt8) : Int := if bitsOK l && l.length == 7 then synTo l 7 else -1
theorem hsyn_yes {s : ByteArray} (h : bitsOK s.data.toList = true) (h7 : s.size = 7) : hsyn s.data.toList = synTo s.data.toList s.size := by
  rw [h7]; unfold hsyn; rw [data_length, h7, h]; simp
theorem hsyn_nb {s : ByteArray} (h : bitsOK s.data.toList = false) : hsyn s.data.toList = -1 := by
  unfold hsyn; rw [h]; simp
theorem hsyn_n7 {s : ByteArray} (h7 : ¬ s.size = 7) : hsyn s.data.toList = -1 := by
  unfold hsyn; rw [data_length]; simp [h7]
end Go.Proofs.Ytiiiaeemblcniaa
