/- Contracts of HammingDecode. -/
import Derived.Test.YtiiiaeemblcniaaHamE
import Derived.Test.YtiiiaeemblcniaaHamming
import Derived.Test.YtiiiaeemblcniaaRepeat
import Derived.Deep.RegionHeld3
import Derived.Deep.DrawnRows
namespace Go.Proofs.Ytiiiaeemblcniaa
set_option maxRecDepth 20000
open Go.ChangeShapes Go.WideShapes Go.ChangeAt Go.RowKit
set_option linter.unusedVariables false
set_option linter.unusedSimpArgs false

/-- a bit changed -/
def inv1 (c : UInt8) : UInt8 := if c = 49 then 48 else 49
def flipL (l : List UInt8) (k : Nat) : List UInt8 := l.set k (inv1 (l.getD k 0))
theorem flipL_len (l : List UInt8) (k : Nat) : (flipL l k).length = l.length := by simp [flipL]
theorem inv1_bit {c : UInt8} (h : bit c) : bit (inv1 c) := by unfold inv1; split; exact .inl rfl; exact .inr rfl
/-- the bits from k on, n of them -/
def cutL (l : List UInt8) (k n : Nat) : List UInt8 := (l.drop k).take n
theorem cutL_len {l : List UInt8} {k n : Nat} (h : k + n ≤ l.length) : (cutL l k n).length = n := by simp [cutL]; omega
theorem cutL_getD {l : List UInt8} {k n j : Nat} (hj : j < n) : (cutL l k n).getD j 0 = l.getD (k + j) 0 := by
  simp only [cutL, List.getD_eq_getElem?_getD, List.getElem?_take, if_pos hj, List.getElem?_drop]
theorem ex_cut (s : ByteArray) (k n : Nat) : s.extract k (k + n) = str (cutL s.data.toList k n) := by
  rw [← str_of (s.extract k (k + n)), ex_list, cutL]
  congr 1
  rw [List.take_drop]
/-- a block corrected -/
def hfix (b : List UInt8) : List UInt8 := if synTo b 7 = 0 then b else flipL b (synTo b 7 - 1)
/-- the data bits of a block -/
def hdata (b : List UInt8) : List UInt8 := [b.getD 2 0, b.getD 4 0, b.getD 5 0, b.getD 6 0]
def hdecTo (l : List UInt8) : Nat → List UInt8
  | 0 => []
  | k + 1 => hdecTo l k ++ hdata (hfix (cutL l (7 * k) 7))
def hcntTo (l : List UInt8) : Nat → Nat
  | 0 => 0
  | k + 1 => hcntTo l k + if synTo (cutL l (7 * k) 7) 7 = 0 then 0 else 1
theorem hdecTo_len (l : List UInt8) (k : Nat) : (hdecTo l k).length = 4 * k := by
  induction k with
  | zero => rfl
  | succ k ih => simp only [hdecTo, List.length_append, ih, hdata, List.length_cons, List.length_nil]; omega
theorem hcntTo_le (l : List UInt8) (k : Nat) : hcntTo l k ≤ k := by
  induction k with
  | zero => exact Nat.le_refl _
  | succ k ih => simp only [hcntTo]; split <;> omega
theorem syn7_lt (b : List UInt8) : synTo b 7 ≤ 7 := by
  have : ∀ k, k ≤ 7 → synTo b k < 8 := by
    intro k
    induction k with
    | zero => intro _; simp [synTo]
    | succ k ih =>
      intro hk
      simp only [synTo]
      split
      · exact Nat.xor_lt_two_pow (n := 3) (ih (by omega)) (by omega)
      · exact ih (by omega)
  have := this 7 (by omega)
  omega
/-- what HammingDecode returns -/
def hamDec (l : List UInt8) : Option (List UInt8 × Nat) := if bitsOK l && decide (l.length % 7 = 0) then some (hdecTo l (l.length / 7), hcntTo l (l.length / 7)) else none
def decRes (o : Option (List UInt8 × Nat)) : Value := match o with
  | some (l, n) => .tuple #[.string (str l), .int .i64 n, .bool true]
  | none => .tuple #[.string ⟨#[]⟩, .int .i64 0, .bool false]
theorem decRes_form (o : Option (List UInt8 × Nat)) : ∃ x n b, decRes o = .tuple #[.string x, .int .i64 n, .bool b] := by
  cases o <;> exact ⟨_, _, _, rfl⟩
theorem hamDec_nb {s : ByteArray} (h : bitsOK s.data.toList = false) : hamDec s.data.toList = none := by simp [hamDec, h]
theorem hamDec_n7 {s : ByteArray} (h : ¬ s.size % 7 = 0) : hamDec s.data.toList = none := by
  unfold hamDec; rw [data_length, decide_eq_false h, Bool.and_false]; rfl
theorem hamDec_yes {s : ByteArray} (h : bitsOK s.data.toList = true) (h7 : s.size % 7 = 0) : hamDec s.data.toList = some (hdecTo s.data.toList (s.size / 7), hcntTo s.data.toList (s.size / 7)) := by
  unfold hamDec; rw [data_length, decide_eq_true h7, h]; rfl
theorem xor_one {c : UInt8} (h : bit c) : bits .xor .u8 (c.toNat : Int) 1 = ((inv1 c).toNat : Int) := by
  rcases h with rfl | rfl <;> decide +kernel
/-- the bits of a block -/
theorem cut_bit {s : ByteArray} (hb : ∀ k (h : k < s.size), bit s[k]) {k n j : Nat} (h : k + n ≤ s.size) (hj : j < n) : bit ((cutL s.data.toList k n).getD j 0) := by
  rw [cutL_getD hj, getD_at s _ (by omega)]; exact hb _ _
theorem inv_sum (l : List UInt8) (h : ∀ c ∈ l, bit c) : sumL l (manyL [49] l.length) = l.map inv1 := by
  rw [manyL_one]
  apply List.ext_getElem
  · simp [sumL]
  · intro i h1 h2
    simp only [List.length_map] at h2
    simp only [sumL, List.getElem_map, List.getElem_range, sumAt]
    rw [List.getD_eq_getElem?_getD, List.getElem?_eq_getElem h2, List.getD_eq_getElem?_getD, List.getElem?_eq_getElem (by simpa using h2)]
    simp only [Option.getD_some, List.getElem_replicate]
    unfold inv1
    rfl
theorem invS_any (l : List UInt8) (w : World) (hl : l.length ≤ 100000) (h : ∀ c ∈ l, bit c) : Calls Try.prog 86 #[.string (str l)] w fun e w' => e = .returned (.string (str (l.map inv1))) ∧ Below w.heap.size w w' := by
  have hz : (str l).size = l.length := str_size l
  have HC : Hid (∀ u : World, Calls Try.prog 78 #[.string ⟨#[49]⟩, .int .i64 (l.length : Int)] u fun e w' => e = .returned (.string (str (manyL [49] l.length))) ∧ u = w') := fun u => by
    have := many_any (str [49]) (l.length : Int) u (by rw [str_size]; simp; omega) (by omega)
    rw [str_list, Int.toNat_natCast] at this
    exact this
  have HS : Hid (∀ u : World, Calls Try.prog 82 #[.string (str l), .string (str (manyL [49] l.length))] u fun e w' => e = .returned (.string (str (l.map inv1))) ∧ Below u.heap.size u w') := fun u => by
    have := sumS_any (str l) (str (manyL [49] l.length)) u (by rw [str_size]; omega) (by rw [str_size, str_size, manyL_len]; simp)
      (fun k hk => by rw [str_get]; rw [str_size] at hk; rw [List.getD_eq_getElem?_getD, List.getElem?_eq_getElem hk]; exact h _ (List.getElem_mem hk))
      (fun k hk => by rw [str_get, manyL_one]; rw [str_size, manyL_one, List.length_replicate] at hk; rw [List.getD_eq_getElem?_getD, List.getElem?_eq_getElem (by simpa using hk)]; simp; exact .inr rfl)
    rw [str_list, str_list, inv_sum l h] at this
    exact this
  clear h
  go_enter Try.func86, Try.ntmps86
  go_wp2_with fail
  refine (HC.out _).mono ?_
  rintro e w' ⟨rfl, rfl⟩
  go_wp2_with fail
  refine (HS.out _).mono ?_
  rintro e w1 ⟨rfl, k1⟩
  go_wp2
  go_ret
  exact ⟨rfl, k1⟩
end Go.Proofs.Ytiiiaeemblcniaa
