/- Plain facts on lists of bytes and on numbers that the walks of this seat use; no program is in sight here. -/
import Derived.Test.YtiiiaeemblcniaaRows
import Derived.WalkKit
import Derived.ProofKit
import Derived.OpenShut
import Derived.Lib.Hide
namespace Go.Proofs.Ytiiiaeemblcniaa
set_option maxRecDepth 20000
open Go.ChangeShapes Go.WideShapes Go.ChangeAt Go.RowKit

/-- what a walk is told of a slice of integers that came in: nil, or a row of cells with numbers that fit their kind -/
def IsRow (k : IntKind) (w : World) (a : Option Addr) (len cap : Nat) (zs : List Int) : Prop :=
  (a = none ∧ len = 0 ∧ cap = 0 ∧ zs = []) ∨
  ∃ x, a = some x ∧ len ≤ cap ∧ cap ≤ maxLen ∧ zs.length = cap ∧ (∀ i, i < zs.length → w.cell? (x.add i) = some (.int k (zs.getD i 0))) ∧ ∀ n ∈ zs, (Lit.int k n).wf = true

/-- a byte that is a bit -/
def bit1 (c : UInt8) : Bool := c == 48 || c == 49
/-- at most 600 bytes, all of them bits -/
def bitsOK (l : List UInt8) : Bool := decide (l.length ≤ 600) && l.all bit1
/-- a sequence: 1 to 255 bits -/
def seqOK (l : List UInt8) : Bool := bitsOK l && decide (1 ≤ l.length) && decide (l.length ≤ 255)

theorem ret_bool {a b : Bool} (h : a = b) : Ending.returned (.bool a) = .returned (.bool b) := by rw [h]
theorem ret_int {k : IntKind} {a b : Int} (h : a = b) : Ending.returned (.int k a) = .returned (.int k b) := by rw [h]
theorem data_length (s : ByteArray) : s.data.toList.length = s.size := by simp
theorem take_snoc (s : ByteArray) (k : Nat) (h : k < s.size) : s.data.toList.take (k + 1) = s.data.toList.take k ++ [s[k]] := by
  rw [List.take_succ_eq_append_getElem (by simpa using h)]; rfl
theorem take_size (s : ByteArray) : s.data.toList.take s.size = s.data.toList := by
  rw [← data_length s, List.take_length]
theorem bits_of (s : ByteArray) (h : (s.data.toList.take s.size).all bit1 = true) : bitsOK s.data.toList = decide (s.size ≤ 600) := by
  rw [take_size] at h
  simp only [bitsOK, h, Bool.and_true, data_length]
theorem bits_not (s : ByteArray) (k : Nat) (hk : k < s.size) (h : bit1 s[k] = false) : bitsOK s.data.toList = false := by
  unfold bitsOK
  have : s.data.toList.all bit1 = false := by
    rw [List.all_eq_false]
    exact ⟨s[k], by show s.data[k] ∈ _; simp, by simp [h]⟩
  simp [this]
theorem bits_long (s : ByteArray) (h : ¬ s.size ≤ 600) : bitsOK s.data.toList = false := by
  unfold bitsOK
  rw [data_length, decide_eq_false h, Bool.false_and]
theorem bits_le {l : List UInt8} (h : bitsOK l = true) : l.length ≤ 600 := by
  unfold bitsOK at h; simp at h; exact h.1
theorem bits_le_size {s : ByteArray} (h : bitsOK s.data.toList = true) : s.size ≤ 600 := by
  have := bits_le h; rwa [data_length] at this
theorem bits_at {s : ByteArray} (h : bitsOK s.data.toList = true) (k : Nat) (hk : k < s.size) : s[k] = 48 ∨ s[k] = 49 := by
  unfold bitsOK at h
  simp only [Bool.and_eq_true, List.all_eq_true] at h
  have := h.2 s[k] (by show s.data[k] ∈ _; simp)
  simpa [bit1] using this
theorem byte_48 {c : UInt8} : c = 48 ↔ (c.toNat : Int) = 48 := by
  constructor
  · rintro rfl; rfl
  · intro h; apply UInt8.toNat_inj.mp; show c.toNat = 48; omega
theorem byte_49 {c : UInt8} : c = 49 ↔ (c.toNat : Int) = 49 := by
  constructor
  · rintro rfl; rfl
  · intro h; apply UInt8.toNat_inj.mp; show c.toNat = 49; omega
theorem bit1_yes {c : UInt8} (h : (c.toNat : Int) = 48 ∨ (c.toNat : Int) = 49) : bit1 c = true := by
  rcases h with h | h
  · simp [bit1, byte_48.2 h]
  · simp [bit1, byte_49.2 h]
theorem bit1_no {c : UInt8} (h : ¬ (c.toNat : Int) = 48) (h' : ¬ (c.toNat : Int) = 49) : bit1 c = false := by
  simp [bit1, mt byte_48.1 h, mt byte_49.1 h']
theorem all_snoc (s : ByteArray) (k : Nat) (h : k < s.size) (ha : (s.data.toList.take k).all bit1 = true) (hb : bit1 s[k] = true) : (s.data.toList.take (k + 1)).all bit1 = true := by
  rw [take_snoc s k h, List.all_append, ha]; simp [hb]

/-- a number between two others -/
def inB (a b c : Int) : Bool := decide (b ≤ a) && decide (a ≤ c)
theorem inB_yes {a b c : Int} (h : b ≤ a) (h' : a ≤ c) : inB a b c = true := by simp [inB, h, h']
theorem inB_no {a b c : Int} (h : ¬ (b ≤ a ∧ a ≤ c)) : inB a b c = false := by
  simp only [inB, Bool.and_eq_false_iff, decide_eq_false_iff_not]; omega
theorem seq_le_size {s : ByteArray} (h : seqOK s.data.toList = true) : 1 ≤ s.size ∧ s.size ≤ 255 := by
  unfold seqOK at h
  rw [data_length] at h
  simp only [Bool.and_eq_true, decide_eq_true_eq] at h
  exact ⟨h.1.2, h.2⟩
theorem seq_bits {l : List UInt8} (h : seqOK l = true) : bitsOK l = true := by
  unfold seqOK at h
  simp only [Bool.and_eq_true] at h
  exact h.1.1
/-- a pilot that is valid: a sequence and a number of samples from 1 to 8 -/
def pilotOK (l : List UInt8) (n : Int) : Bool := seqOK l && inB n 1 8
theorem pilot_parts {s : ByteArray} {n : Int} (h : pilotOK s.data.toList n = true) : seqOK s.data.toList = true ∧ 1 ≤ n ∧ n ≤ 8 ∧ 1 ≤ s.size ∧ s.size ≤ 255 ∧ 1 ≤ (s.size : Int) * n ∧ (s.size : Int) * n ≤ 2040 := by
  unfold pilotOK inB at h
  simp only [Bool.and_eq_true, decide_eq_true_eq] at h
  obtain ⟨hs, h1, h2⟩ := h
  have := seq_le_size hs
  have a : (s.size : Int) * n ≤ 255 * 8 := Int.mul_le_mul (by omega) h2 (by omega) (by omega)
  have b : (1 : Int) * 1 ≤ (s.size : Int) * n := Int.mul_le_mul (by omega) h1 (by omega) (by omega)
  exact ⟨hs, h1, h2, this.1, this.2, by omega, by omega⟩
/-- what is left of a bound on the arguments' size -/
def leftOf (left n : Int) : Int := if left - n < 0 then -1 else left - n
theorem leftOf_neg {left n : Int} (h : left - n < 0) : leftOf left n = -1 := if_pos h
theorem leftOf_pos {left n : Int} (h : ¬ left - n < 0) : leftOf left n = left - n := if_neg h
theorem wf_i64 {n : Int} (h : (Lit.int .i64 n).wf = true) : -9223372036854775808 ≤ n ∧ n ≤ 9223372036854775807 := by
  simpa [Lit.wf, IntKind.min, IntKind.max, IntKind.signed, IntKind.bits] using h
theorem bcell {W w1 : World} (hb : Below W.heap.size W w1) : (∀ b o, b < W.heap.size → w1.cell? ⟨b, o, none⟩ = W.cell? ⟨b, o, none⟩) ∧ (∀ b o, b < W.heap.size → w1.frozen? ⟨b, o, none⟩ = W.frozen? ⟨b, o, none⟩) :=
  ⟨fun b o h => hb.cell (p := ⟨b, o, none⟩) h, fun b o h => hb.frozen (p := ⟨b, o, none⟩) h⟩
theorem below_next {a b c : World} (h : Below a.heap.size a b) (k : Below b.heap.size b c) : Below a.heap.size a c := h.trans (k.mono h.size)
theorem below_out {a b : World} {o : Obj} (h : Below (a.alloc o).heap.size (a.alloc o) b) : Below a.heap.size a b :=
  ((Below.refl _ _).alloc (Nat.le_refl _) _).trans (h.mono (by simp))
end Go.Proofs.Ytiiiaeemblcniaa
