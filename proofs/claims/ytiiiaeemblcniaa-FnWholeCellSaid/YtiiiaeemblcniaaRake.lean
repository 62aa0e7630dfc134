/- Sums of correlations at several delays, margins, errors: plain facts. -/
import Derived.Test.YtiiiaeemblcniaaRecv
import Derived.Test.YtiiiaeemblcniaaDrawA
namespace Go.Proofs.Ytiiiaeemblcniaa
set_option maxRecDepth 20000
open Go.ChangeShapes Go.WideShapes Go.ChangeAt Go.RowKit
set_option linter.unusedVariables false
set_option linter.unusedSimpArgs false

/-- the sum of the correlations of bit i at the first k delays -/
def rkS (z : List Int) (l : List UInt8) (ds : List Int) (i : Nat) : Nat → Int
  | 0 => 0
  | k + 1 => rkS z l ds i k + dot z l ((ds.getD k 0).toNat + i * l.length)
def rkL (z : List Int) (l : List UInt8) (ds : List Int) (n k : Nat) : List Int := (List.range n).map fun i => rkS z l ds i k
theorem rkL_len (z : List Int) (l : List UInt8) (ds : List Int) (n k : Nat) : (rkL z l ds n k).length = n := by simp [rkL]
theorem rkL_at (z : List Int) (l : List UInt8) (ds : List Int) (n k : Nat) {i : Nat} (h : i < n) : (rkL z l ds n k).getD i 0 = rkS z l ds i k := by simp [rkL, List.getD_eq_getElem?_getD, h]
theorem rkS_le {z : List Int} (hz : sigOK z = true) {l : List UInt8} (hl : l.length ≤ 255) (ds : List Int) (i : Nat) : ∀ k : Nat, -(255000000 * (k : Int)) ≤ rkS z l ds i k ∧ rkS z l ds i k ≤ 255000000 * (k : Int)
  | 0 => by simp [rkS]
  | k + 1 => by
    have h1 := rkS_le hz hl ds i k
    have h2 := dot_le hz ((ds.getD k 0).toNat + i * l.length) hl
    rw [rkS]
    omega
theorem rkL_zero (z : List Int) (l : List UInt8) (ds : List Int) (n : Nat) : rkL z l ds n 0 = (List.range n).map fun _ => (0 : Int) := rfl
theorem rkL_next {z : List Int} (hz : sigOK z = true) {l : List UInt8} (hl : l.length ≤ 255) (ds : List Int) (n k : Nat) (hk : k ≤ 8) : addL5 (rkL z l ds n k) (dots z l (ds.getD k 0).toNat n) = rkL z l ds n (k + 1) := by
  unfold addL5
  rw [rkL_len, dots_len, Nat.max_self]
  show _ = (List.range n).map fun i => rkS z l ds i (k + 1)
  apply List.map_congr_left
  intro i hi
  have hin : i < n := by simpa using hi
  rw [if_pos hin, rkL_at _ _ _ _ _ hin, dots_at _ _ _ _ hin, rkS]
  have h1 := rkS_le hz hl ds i k
  have h2 := dot_le hz ((ds.getD k 0).toNat + i * l.length) hl
  generalize rkS z l ds i k = a at *
  generalize dot z l ((ds.getD k 0).toNat + i * l.length) = b at *
  unfold wrap64
  omega
/-- what RakeReceive returns -/
def rkOK (z : List Int) (s : ByteArray) (ds : List Int) (n : Int) : Bool := decide (1 ≤ ds.length) && decide (ds.length ≤ 8) && inB n 0 600 && ds.all (rvOK z s ·)
def rkO (z : List Int) (s : ByteArray) (ds : List Int) (n : Int) : Option (List UInt8) := if rkOK z s ds n then some (signs (rkL z s.data.toList ds n.toNat ds.length)) else none
theorem rk_yes {z : List Int} {s : ByteArray} {ds : List Int} {N : Nat} (h : rkOK z s ds (N : Int) = true) : rkO z s ds (N : Int) = some (signs (rkL z s.data.toList ds N ds.length)) := if_pos h
theorem rk_no {z : List Int} {s : ByteArray} {ds : List Int} {n : Int} (h : rkOK z s ds n = false) : rkO z s ds n = none := if_neg (by simp [h])
theorem rk_parts {z : List Int} {s : ByteArray} {ds : List Int} {n : Int} (h : rkOK z s ds n = true) : (1 ≤ ds.length ∧ ds.length ≤ 8) ∧ (0 ≤ n ∧ n ≤ 600) ∧ ∀ d ∈ ds, rvOK z s d = true := by
  unfold rkOK inB at h
  simp only [Bool.and_eq_true, decide_eq_true_eq, List.all_eq_true] at h
  exact ⟨h.1.1, h.1.2, h.2⟩
theorem rk_mk {z : List Int} {s : ByteArray} {ds : List Int} {n : Int} (h1 : 1 ≤ ds.length) (h2 : ds.length ≤ 8) (h3 : 0 ≤ n) (h4 : n ≤ 600) (h5 : ∀ d ∈ ds, rvOK z s d = true) : rkOK z s ds n = true := by
  unfold rkOK inB
  simp only [Bool.and_eq_true, decide_eq_true_eq, List.all_eq_true]
  exact ⟨⟨⟨h1, h2⟩, h3, h4⟩, h5⟩
theorem rv_parts {z : List Int} {s : ByteArray} {x : Int} (h : rvOK z s x = true) : sigOK z = true ∧ seqOK s.data.toList = true ∧ 0 ≤ x ∧ x ≤ 3000 := by
  unfold rvOK inB at h
  simp only [Bool.and_eq_true, decide_eq_true_eq] at h
  exact ⟨h.1.1, h.1.2, h.2⟩
/-- the sum does not depend on the order -/
def sumZ : List Int → Int
  | [] => 0
  | x :: xs => x + sumZ xs
theorem sumZ_append (a b : List Int) : sumZ (a ++ b) = sumZ a + sumZ b := by
  induction a with
  | nil => simp [sumZ]
  | cons x a ih => rw [List.cons_append, sumZ, sumZ, ih]; omega
theorem sumZ_reverse (a : List Int) : sumZ a.reverse = sumZ a := by
  induction a with
  | nil => rfl
  | cons x a ih => rw [List.reverse_cons, sumZ_append, ih, sumZ, sumZ, sumZ]; omega
theorem rkS_sum (z : List Int) (l : List UInt8) (ds : List Int) (i : Nat) : ∀ k, k ≤ ds.length → rkS z l ds i k = sumZ ((ds.take k).map fun d => dot z l (d.toNat + i * l.length))
  | 0, _ => rfl
  | k + 1, h => by
    rw [rkS, rkS_sum z l ds i k (by omega), List.take_succ_eq_append_getElem (by omega), List.map_append, sumZ_append, List.getD_eq_getElem?_getD, List.getElem?_eq_getElem (by omega)]
    simp [sumZ]
theorem rkS_all (z : List Int) (l : List UInt8) (ds : List Int) (i : Nat) : rkS z l ds i ds.length = sumZ (ds.map fun d => dot z l (d.toNat + i * l.length)) := by
  rw [rkS_sum z l ds i _ (Nat.le_refl _), List.take_length]
theorem rkL_rev (z : List Int) (l : List UInt8) (ds : List Int) (n : Nat) : rkL z l ds.reverse n ds.reverse.length = rkL z l ds n ds.length := by
  unfold rkL
  apply List.map_congr_left
  intro i _
  rw [rkS_all, rkS_all, List.map_reverse, sumZ_reverse]
theorem rkO_rev (z : List Int) (s : ByteArray) (ds : List Int) (n : Int) : rkO z s ds.reverse n = rkO z s ds n := by
  have h : rkOK z s ds.reverse n = rkOK z s ds n := by unfold rkOK; rw [List.length_reverse, List.all_reverse]
  unfold rkO
  rw [h, rkL_rev]
theorem rkL_one (z : List Int) (l : List UInt8) (x : Int) (n : Nat) : rkL z l [x] n 1 = dots z l x.toNat n := by
  unfold rkL dots
  apply List.map_congr_left
  intro i _
  simp [rkS]
theorem rkO_one {z : List Int} {s : ByteArray} {x n : Int} (hv : rvOK z s x = true) (h0 : 0 ≤ n) (h6 : n ≤ 600) : rkO z s [x] n = rcvO z s x n ∧ lsOK z s x n = true := by
  have e1 : rkOK z s [x] n = true := rk_mk (by simp) (by simp) h0 h6 (fun d hd => by simp at hd; rw [hd]; exact hv)
  have e2 : lsOK z s x n = true := by rw [ls_rv, hv, inB_yes h0 h6]; rfl
  unfold rkO rcvO
  rw [e1, e2, if_pos rfl, if_pos rfl]
  exact ⟨by rw [show ([x] : List Int).length = 1 from rfl, rkL_one], rfl⟩
theorem signB_two (a : Int) : signB (0 + a + a) = signB a := by
  unfold signB
  by_cases h : a < 0
  · rw [if_pos h, if_pos (by omega)]
  · rw [if_neg h, if_neg (by omega)]
theorem rkL_two (z : List Int) (l : List UInt8) (x : Int) (n : Nat) : signs (rkL z l [x, x] n 2) = signs (dots z l x.toNat n) := by
  unfold signs rkL dots
  rw [List.map_map, List.map_map]
  apply List.map_congr_left
  intro i _
  simp only [Function.comp, rkS, List.getD_cons_zero, List.getD_cons_succ]
  exact signB_two _
theorem rkO_two {z : List Int} {s : ByteArray} {x n : Int} (h : lsOK z s x n = true) : rkO z s [x, x] n = rcvO z s x n ∧ rkOK z s [x, x] n = true := by
  have hv : rvOK z s x = true := by rw [ls_rv, Bool.and_eq_true] at h; exact h.1
  have hn : 0 ≤ n ∧ n ≤ 600 := by rw [ls_rv, Bool.and_eq_true] at h; have := h.2; unfold inB at this; simpa using this
  have e1 : rkOK z s [x, x] n = true := rk_mk (by simp) (by simp) hn.1 hn.2 (fun d hd => by simp at hd; rw [hd]; exact hv)
  unfold rkO rcvO
  rw [e1, h, if_pos rfl, if_pos rfl]
  exact ⟨by rw [show ([x, x] : List Int).length = 2 from rfl, rkL_two], rfl⟩
/-- how sure a bit is, and the least of the first k -/
def mgV (z : List Int) (l : List UInt8) (x : Nat) (d : List UInt8) (k : Nat) : Int := dot z l (x + k * l.length) * chip (d.getD k 0)
def mgT (z : List Int) (l : List UInt8) (x : Nat) (d : List UInt8) : Nat → Int
  | 0 => 0
  | k + 1 => if k = 0 ∨ mgV z l x d k < mgT z l x d k then mgV z l x d k else mgT z l x d k
theorem mgT_first (z : List Int) (l : List UInt8) (x : Nat) (d : List UInt8) : mgT z l x d 1 = mgV z l x d 0 := by rw [mgT, if_pos (.inl rfl)]
theorem mgT_less {z : List Int} {l : List UInt8} {x : Nat} {d : List UInt8} {k : Nat} (h : mgV z l x d k < mgT z l x d k) : mgT z l x d (k + 1) = mgV z l x d k := by rw [mgT, if_pos (.inr h)]
theorem mgT_more {z : List Int} {l : List UInt8} {x : Nat} {d : List UInt8} {k : Nat} (h0 : ¬ k = 0) (h : ¬ mgV z l x d k < mgT z l x d k) : mgT z l x d (k + 1) = mgT z l x d k := by rw [mgT, if_neg (by rintro (h1 | h1); exact h0 h1; exact h h1)]
theorem mgT_spec (z : List Int) (l : List UInt8) (x : Nat) (d : List UInt8) : ∀ k, 1 ≤ k → (∃ j, j < k ∧ mgT z l x d k = mgV z l x d j) ∧ ∀ j, j < k → mgT z l x d k ≤ mgV z l x d j
  | 0, h => by omega
  | 1, _ => by
    rw [mgT_first]
    exact ⟨⟨0, by omega, rfl⟩, fun j hj => by rw [show j = 0 by omega]; exact Int.le_refl _⟩
  | k + 2, _ => by
    obtain ⟨⟨j0, hj0, he⟩, hall⟩ := mgT_spec z l x d (k + 1) (by omega)
    by_cases h : mgV z l x d (k + 1) < mgT z l x d (k + 1)
    · rw [mgT_less h]
      refine ⟨⟨k + 1, by omega, rfl⟩, fun j hj => ?_⟩
      by_cases hj2 : j = k + 1
      · rw [hj2]; exact Int.le_refl _
      · have := hall j (by omega); omega
    · rw [mgT_more (by omega) h]
      refine ⟨⟨j0, by omega, he⟩, fun j hj => ?_⟩
      by_cases hj2 : j = k + 1
      · rw [hj2]; omega
      · exact hall j (by omega)
theorem chip_le {x b : Int} (c : UInt8) (h : -b ≤ x ∧ x ≤ b) : -b ≤ x * chip c ∧ x * chip c ≤ b := chip_mul c h
theorem mgV_le {z : List Int} (hz : sigOK z = true) {l : List UInt8} (hl : l.length ≤ 255) (x : Nat) (d : List UInt8) (k : Nat) : -255000000 ≤ mgV z l x d k ∧ mgV z l x d k ≤ 255000000 := chip_mul _ (dot_le hz _ hl)
theorem mgT_le {z : List Int} (hz : sigOK z = true) {l : List UInt8} (hl : l.length ≤ 255) (x : Nat) (d : List UInt8) : ∀ k, -255000000 ≤ mgT z l x d k ∧ mgT z l x d k ≤ 255000000
  | 0 => by simp [mgT]
  | k + 1 => by
    have h1 := mgV_le hz hl x d k
    have h2 := mgT_le hz hl x d k
    rw [mgT]
    split
    · exact h1
    · exact h2
/-- in how many of the first k places two strings differ -/
def diffN (a b : List UInt8) : Nat → Nat
  | 0 => 0
  | k + 1 => diffN a b k + if a.getD k 0 = b.getD k 0 then 0 else 1
theorem diffN_le (a b : List UInt8) : ∀ k, diffN a b k ≤ k
  | 0 => Nat.le_refl _
  | k + 1 => by have := diffN_le a b k; rw [diffN]; split <;> omega
theorem diffN_zero (a b : List UInt8) : ∀ k, (∀ j, j < k → a.getD j 0 = b.getD j 0) → diffN a b k = 0
  | 0, _ => rfl
  | k + 1, h => by rw [diffN, diffN_zero a b k (fun j hj => h j (by omega)), if_pos (h k (by omega))]
theorem diffN_pos (a b : List UInt8) {j : Nat} (hne : a.getD j 0 ≠ b.getD j 0) : ∀ k, j < k → 0 < diffN a b k
  | 0, h => by omega
  | k + 1, h => by
    rw [diffN]
    by_cases hj : j = k
    · subst hj; rw [if_neg hne]; omega
    · have := diffN_pos a b hne k (by omega); omega
def beI (a b : List UInt8) : Int := if bitsOK a && bitsOK b && decide (a.length = b.length) then (diffN a b a.length : Int) else -1
theorem be_yes {a b : List UInt8} (h1 : bitsOK a = true) (h2 : bitsOK b = true) (h : a.length = b.length) : beI a b = (diffN a b a.length : Int) := by unfold beI; rw [h1, h2, decide_eq_true h]; rfl
theorem be_no {a b : List UInt8} (h : (bitsOK a && bitsOK b && decide (a.length = b.length)) = false) : beI a b = -1 := by unfold beI; rw [h]; rfl
/-- a bit that is surely received, or surely not -/
theorem sign_good {v : Int} {c : UInt8} (hc : bit c) (h : 0 < v * chip c) : signB v = c := by
  rcases hc with rfl | rfl
  · have e : chip 48 = 1 := rfl
    rw [e] at h
    exact if_neg (by omega)
  · have e : chip 49 = -1 := rfl
    rw [e] at h
    exact if_pos (by omega)
theorem sign_bad {v : Int} {c : UInt8} (hc : bit c) (h : v * chip c < 0) : signB v ≠ c := by
  rcases hc with rfl | rfl
  · have e : chip 48 = 1 := rfl
    rw [e] at h
    unfold signB
    rw [if_pos (by omega)]
    decide
  · have e : chip 49 = -1 := rfl
    rw [e] at h
    unfold signB
    rw [if_neg (by omega)]
    decide
theorem signs_bits (l : List Int) : ∀ c ∈ signs l, bit c := by
  intro c hc
  unfold signs at hc
  rw [List.mem_map] at hc
  obtain ⟨x, _, rfl⟩ := hc
  unfold signB
  split
  · exact .inr rfl
  · exact .inl rfl
theorem signs_dots_at (z : List Int) (l : List UInt8) (x n : Nat) {j : Nat} (h : j < n) : (signs (dots z l x n)).getD j 0 = signB (dot z l (x + j * l.length)) := by
  rw [signs_getD _ (by rw [dots_len]; exact h), dots_at _ _ _ _ h]
theorem margin_good {z : List Int} {l : List UInt8} {x : Nat} {d : List UInt8} (hd : bitsOK d = true) (h : 0 < mgT z l x d d.length) : diffN (signs (dots z l x d.length)) d d.length = 0 := by
  refine diffN_zero _ _ _ fun j hj => ?_
  rw [signs_dots_at _ _ _ _ hj]
  have h1 := (mgT_spec z l x d d.length (by omega)).2 j hj
  exact sign_good (bits_at4 hd hj) (by show 0 < mgV z l x d j; omega)
theorem margin_bad {z : List Int} {l : List UInt8} {x : Nat} {d : List UInt8} (hd : bitsOK d = true) (h1 : 1 ≤ d.length) (h : mgT z l x d d.length < 0) : 0 < diffN (signs (dots z l x d.length)) d d.length := by
  obtain ⟨j, hj, he⟩ := (mgT_spec z l x d d.length h1).1
  refine diffN_pos _ _ (j := j) ?_ _ hj
  rw [signs_dots_at _ _ _ _ hj]
  exact sign_bad (bits_at4 hd hj) (by show mgV z l x d j < 0; omega)
end Go.Proofs.Ytiiiaeemblcniaa
