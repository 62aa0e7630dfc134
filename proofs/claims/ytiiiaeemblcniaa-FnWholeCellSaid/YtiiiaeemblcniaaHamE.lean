/- Contracts of HammingEncode. -/
import Derived.Test.YtiiiaeemblcniaaCrc
import Derived.Test.YtiiiaeemblcniaaBytes
namespace Go.Proofs.Ytiiiaeemblcniaa
set_option maxRecDepth 20000
open Go.ChangeShapes Go.WideShapes Go.ChangeAt Go.RowKit
set_option linter.unusedVariables false
set_option linter.unusedSimpArgs false

/-- the sum of three bits -/
def x3 (a b c : UInt8) : UInt8 := if ((a == 49) != (b == 49)) != (c == 49) then 49 else 48
/-- the block of four bits -/
def hamBlock (a b c d : UInt8) : List UInt8 := [x3 a b d, x3 a c d, a, x3 b c d, b, c, d]
def hamTo (l : List UInt8) : Nat → List UInt8
  | 0 => []
  | k + 1 => hamTo l k ++ hamBlock (l.getD (4 * k) 0) (l.getD (4 * k + 1) 0) (l.getD (4 * k + 2) 0) (l.getD (4 * k + 3) 0)
theorem hamTo_len (l : List UInt8) (k : Nat) : (hamTo l k).length = 7 * k := by
  induction k with
  | zero => rfl
  | succ k ih => simp only [hamTo, List.length_append, ih, hamBlock, List.length_cons, List.length_nil]; omega
theorem x3_bit1 (a b c : UInt8) : bit1 (x3 a b c) = true := by unfold x3; split <;> rfl
theorem bit1_of {c : UInt8} (h : bit c) : bit1 c = true := by rcases h with h | h <;> rw [h] <;> rfl
theorem hamTo_bits {l : List UInt8} (hb : bitsOK l = true) : ∀ k, 4 * k ≤ l.length → ∀ c ∈ hamTo l k, bit1 c = true
  | 0, _, c, hc => by simp [hamTo] at hc
  | k + 1, hk, c, hc => by
    rw [hamTo, List.mem_append] at hc
    rcases hc with hc | hc
    · exact hamTo_bits hb k (by omega) c hc
    · simp only [hamBlock, List.mem_cons, List.not_mem_nil, or_false] at hc
      have g : ∀ j, j < l.length → bit1 (l.getD j 0) = true := fun j hj => by
        unfold bitsOK at hb
        simp only [Bool.and_eq_true, List.all_eq_true] at hb
        rw [List.getD_eq_getElem?_getD, List.getElem?_eq_getElem hj]
        exact hb.2 _ (List.getElem_mem hj)
      rcases hc with h | h | h | h | h | h | h <;> rw [h] <;> first | exact x3_bit1 _ _ _ | exact g _ (by omega)
theorem x3_walk {a b c : UInt8} (ha : bit a) (hb : bit b) (hc : bit c) :
    bitB (bits .and .i64 (wrap64 (bits .xor .u8 (bits .xor .u8 (a.toNat : Int) (b.toNat : Int)) (c.toNat : Int))) 1) = ((x3 a b c).toNat : Int) := by
  rcases ha with rfl | rfl <;> rcases hb with rfl | rfl <;> rcases hc with rfl | rfl <;> decide +kernel
/-- what HammingEncode returns -/
def hamEnc (l : List UInt8) : Option (List UInt8) := if bitsOK l && decide (l.length % 4 = 0) && decide (l.length / 4 * 7 ≤ 600) then some (hamTo l (l.length / 4)) else none
theorem hamEnc_nb {s : ByteArray} (h : bitsOK s.data.toList = false) : hamEnc s.data.toList = none := by simp [hamEnc, h]
theorem hamEnc_n4 {s : ByteArray} (h : ¬ s.size % 4 = 0) : hamEnc s.data.toList = none := by
  unfold hamEnc; rw [data_length, decide_eq_false h, Bool.and_false]; rfl
theorem hamEnc_n6 {s : ByteArray} (h : ¬ s.size / 4 * 7 ≤ 600) : hamEnc s.data.toList = none := by
  unfold hamEnc; rw [data_length, decide_eq_false h, Bool.and_false]; rfl
theorem hamEnc_yes {s : ByteArray} (h : bitsOK s.data.toList = true) (h4 : s.size % 4 = 0) (h6 : s.size / 4 * 7 ≤ 600) : hamEnc s.data.toList = some (hamTo s.data.toList (s.size / 4)) := by
  unfold hamEnc; rw [data_length, decide_eq_true h4, decide_eq_true h6, h]; rfl
theorem hamTo_next {s : ByteArray} {k : Nat} (h : 4 * k + 3 < s.size) : (hamTo s.data.toList k).map byteV ++ (hamBlock s[4 * k] s[4 * k + 1] s[4 * k + 2] s[4 * k + 3]).map byteV = (hamTo s.data.toList (k + 1)).map byteV := by
  rw [← List.map_append]
  congr 1
  rw [hamTo, getD_at s _ (by omega), getD_at s _ (by omega), getD_at s _ (by omega), getD_at s _ (by omega)]
end Go.Proofs.Ytiiiaeemblcniaa
