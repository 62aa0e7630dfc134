/- Plain facts on rows of bytes that a call made, and on sums of bits. -/
import Derived.Test.YtiiiaeemblcniaaPlain2
import Derived.Deep.OwnRows
import Derived.Laws.IdiomStrings
namespace Go.Proofs.Ytiiiaeemblcniaa
set_option maxRecDepth 20000
open Go.RowKit

theorem add_zero_off (b j : Nat) : (⟨b, 0, none⟩ : Addr).add j = ⟨b, j, none⟩ := by unfold Addr.add; split <;> simp_all
/-- 'string(b)' of a row of the call's own whose first cells are the bytes l -/
theorem conv_row {P : Program} {wr : World} {B n cap : Nat} {src dst e : TypeId} {f : Nat → Value} (l : List UInt8) (hl : l.length = n) (hn : n ≤ cap) (hrow : wr.rowIs B e cap f)
    (hf : ∀ j, j < n → f j = .int .u8 ((l.getD j 0).toNat : Int)) (hs : P.underlying src = some (.slice e)) (he : P.underlying e = some (.int .u8)) (hd : P.underlying dst = some .string) :
    (convert src dst (.slice (some ⟨B, 0, none⟩) n cap)).run P wr = .ok (.string ⟨l.toArray⟩) wr := by
  subst hl
  refine run_convert_bytes_back (P := P) wr src dst e ⟨B, 0, none⟩ cap l hs he hd (fun j hj => ?_)
  rw [add_zero_off, hrow.cell (Nat.lt_of_lt_of_le hj hn), hf j hj, List.getD_eq_getElem?_getD, List.getElem?_eq_getElem hj]
  rfl
/-- one more cell of a row is filled -/
theorem row_next {w : World} {b : Nat} {e : TypeId} {n k : Nat} {f : Nat → Value} {z : Value} (h : w.rowIs b e n (fun j => if j < k then f j else z)) {v : Value} (hv : v = f k) :
    (w.setCell ⟨b, k, none⟩ v).rowIs b e n (fun j => if j < k + 1 then f j else z) := by
  refine (h.set k v).congr fun j _ => ?_
  by_cases hj : j = k
  · subst hj; simp [hv]
  · simp only [hj, if_false]
    by_cases h1 : j < k
    · rw [if_pos h1, if_pos (by omega)]
    · rw [if_neg h1, if_neg (by omega)]

/-- the byte of a bit -/
def bitB (n : Int) : Int := if n = 0 then 48 else 49
def bit (c : UInt8) : Prop := c = 48 ∨ c = 49
theorem bits_bit {s : ByteArray} (h : bitsOK s.data.toList = true) : ∀ k (hk : k < s.size), bit s[k] := fun k hk => bits_at h k hk
/-- the sum of two bits -/
def sumAt (a b : List UInt8) (k : Nat) : UInt8 := if a.getD k 0 = b.getD k 0 then 48 else 49
def sumL (a b : List UInt8) : List UInt8 := (List.range a.length).map (sumAt a b)
theorem sumL_len (a b : List UInt8) : (sumL a b).length = a.length := by simp [sumL]
theorem sumL_getD (a b : List UInt8) (j : Nat) (h : j < a.length) : (sumL a b).getD j 0 = sumAt a b j := by
  simp [sumL, List.getD_eq_getElem?_getD, h]
theorem bitB_xor {c d : UInt8} (hc : bit c) (hd : bit d) : bitB (wrap64 (bits .xor .u8 (c.toNat : Int) (d.toNat : Int))) = ((if c = d then 48 else 49 : UInt8).toNat : Int) := by
  rcases hc with rfl | rfl <;> rcases hd with rfl | rfl <;> decide +kernel
theorem sumAt_get {s t : ByteArray} {k : Nat} (h : k < s.size) (h' : k < t.size) : sumAt s.data.toList t.data.toList k = if s[k] = t[k] then 48 else 49 := by
  unfold sumAt; rw [getD_at s k h, getD_at t k h']
theorem isEmpty_no {s : ByteArray} (h : 1 ≤ s.size) : s.toList.isEmpty = false := by
  rw [ByteArray.toList_eq, List.isEmpty_eq_false_iff]; intro e; have := data_length s; rw [e] at this; simp at this; omega
theorem isEmpty_yes {s : ByteArray} (h : ¬ 1 ≤ s.size) : s.toList.isEmpty = true := by
  rw [ByteArray.toList_eq, List.isEmpty_iff, List.eq_nil_iff_length_eq_zero, data_length]; omega
theorem ex_list (s : ByteArray) (i j : Nat) : (s.extract i j).data.toList = (s.data.toList.take j).drop i := by
  simp [ByteArray.data_extract, List.extract_eq_take_drop, List.drop_take]
theorem ex_size (s : ByteArray) (i j : Nat) : (s.extract i j).size = min j s.size - i := by simp
theorem ex_bit {s : ByteArray} (hb : ∀ k (h : k < s.size), bit s[k]) (i j : Nat) : ∀ k (h : k < (s.extract i j).size), bit (s.extract i j)[k] := by
  intro k h
  have h' : i + k < s.size := by rw [ex_size] at h; omega
  have : (s.extract i j)[k] = s[i + k] := by simp [ByteArray.getElem_extract]
  rw [this]; exact hb _ h'
/-- the changes of bits -/
def diffL (l : List UInt8) : List UInt8 := sumL (l.drop 1) (l.take (l.length - 1))
theorem diff_eq (s : ByteArray) : sumL (s.extract 1 s.size).data.toList (s.extract 0 (s.size - 1)).data.toList = diffL s.data.toList := by
  rw [ex_list, ex_list, take_size, diffL, data_length, List.drop_zero]
/-- a string and whether there is one, as two results -/
def strRes (o : Option (List UInt8)) : Value := match o with
  | some l => .tuple #[.string ⟨l.toArray⟩, .bool true]
  | none => .tuple #[.string ⟨#[]⟩, .bool false]
theorem strRes_form (o : Option (List UInt8)) : ∃ x b, strRes o = .tuple #[.string x, .bool b] := by cases o <;> exact ⟨_, _, rfl⟩
/-- what DiffDecode returns -/
def diffDec (l : List UInt8) : Option (List UInt8) := if bitsOK l && decide (1 ≤ l.length) then some (diffL l) else none
theorem diffDec_nb {s : ByteArray} (h : bitsOK s.data.toList = false) : diffDec s.data.toList = none := by
  unfold diffDec; rw [h]; rfl
theorem diffDec_n1 {s : ByteArray} (h : ¬ 1 ≤ s.size) : diffDec s.data.toList = none := by
  unfold diffDec; rw [data_length, decide_eq_false h, Bool.and_false]; rfl
theorem diffDec_yes {s : ByteArray} (h : bitsOK s.data.toList = true) (h1 : 1 ≤ s.size) : diffDec s.data.toList = some (diffL s.data.toList) := by
  unfold diffDec; rw [data_length, decide_eq_true h1, h]; rfl
end Go.Proofs.Ytiiiaeemblcniaa
