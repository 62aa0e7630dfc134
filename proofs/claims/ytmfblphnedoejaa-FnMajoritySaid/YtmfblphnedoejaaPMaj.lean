/- Plain facts on repeated bits: fewer changes in a group than half of it do not change its majority. No program is in sight here. -/
import Derived.Test.YtmfblphnedoejaaMajor
import Derived.Test.YtmfblphnedoejaaHamD
namespace Go.Proofs.Ytmfblphnedoejaa
set_option maxRecDepth 20000
set_option linter.unusedVariables false
set_option linter.unusedSimpArgs false

theorem count_set_near (v : UInt8) : ∀ (b : List UInt8) (j : Nat), (b.set j v).count 49 ≤ b.count 49 + 1 ∧ b.count 49 ≤ (b.set j v).count 49 + 1
  | [], j => by simp
  | a :: t, 0 => by simp only [List.set_cons_zero, List.count_cons]; constructor <;> (split <;> split <;> omega)
  | a :: t, j + 1 => by
    have := count_set_near v t j
    simp only [List.set_cons_succ, List.count_cons]
    omega
/-- how far group k of x is from n times the bit c -/
def grpD (x : List UInt8) (n k : Nat) (c : UInt8) : Nat := if c = 49 then n - (cutQ x (k * n) n).count 49 else (cutQ x (k * n) n).count 49
theorem cutQ_flip (x : List UInt8) (p a n : Nat) : cutQ (flipL x p) a n = if a ≤ p ∧ p < a + n then (cutQ x a n).set (p - a) (inv1 (x.getD p 0)) else cutQ x a n := by
  unfold cutQ flipL
  rw [List.drop_set]
  by_cases h1 : p < a
  · rw [if_pos h1, if_neg (by omega)]
  · rw [if_neg h1, List.take_set]
    by_cases h2 : p < a + n
    · rw [if_pos (by omega)]
    · rw [if_neg (by omega), List.set_eq_of_length_le (by rw [List.length_take]; omega)]
theorem grp_flip (x : List UInt8) (n k p : Nat) (c : UInt8) : grpD (flipL x p) n k c ≤ grpD x n k c + (if k * n ≤ p ∧ p < k * n + n then 1 else 0) := by
  unfold grpD
  rw [cutQ_flip]
  by_cases h : k * n ≤ p ∧ p < k * n + n
  · rw [if_pos h, if_pos h]
    have := count_set_near (inv1 (x.getD p 0)) (cutQ x (k * n) n) (p - k * n)
    split <;> omega
  · rw [if_neg h, if_neg h]; omega
/-- k bits of group i changed -/
def mxIn (x : List UInt8) (n m i : Nat) : Nat → List UInt8
  | 0 => x
  | k + 1 => flipL (mxIn x n m i k) (i * n + (k * 2 + m + i) % n)
def mxTo (s : List UInt8) (n m : Nat) : Nat → List UInt8
  | 0 => s
  | i + 1 => mxIn (mxTo s n m i) n m i (n / 2)
theorem mxIn_len (x : List UInt8) (n m i : Nat) : ∀ k, (mxIn x n m i k).length = x.length
  | 0 => rfl
  | k + 1 => by simp only [mxIn]; rw [flipL_len]; exact mxIn_len x n m i k
theorem mxTo_len (s : List UInt8) (n m : Nat) : ∀ i, (mxTo s n m i).length = s.length
  | 0 => rfl
  | i + 1 => by simp only [mxTo]; rw [mxIn_len]; exact mxTo_len s n m i
theorem in_group {n i k q : Nat} (hn : 0 < n) (hq : q < n) (h : k * n ≤ i * n + q ∧ i * n + q < k * n + n) : k = i := by
  rcases Nat.lt_trichotomy k i with h1 | h1 | h1
  · have : (k + 1) * n ≤ i * n := Nat.mul_le_mul_right n h1
    rw [Nat.succ_mul] at this; omega
  · exact h1
  · have : (i + 1) * n ≤ k * n := Nat.mul_le_mul_right n h1
    rw [Nat.succ_mul] at this; omega
theorem mxIn_grp (x : List UInt8) {n : Nat} (hn : 0 < n) (m i k : Nat) (c : UInt8) : ∀ j, grpD (mxIn x n m i j) n k c ≤ grpD x n k c + (if k = i then j else 0)
  | 0 => by simp [mxIn]
  | j + 1 => by
    simp only [mxIn]
    have h1 := grp_flip (mxIn x n m i j) n k (i * n + (j * 2 + m + i) % n) c
    have h2 := mxIn_grp x hn m i k c j
    have h3 : (k * n ≤ i * n + (j * 2 + m + i) % n ∧ i * n + (j * 2 + m + i) % n < k * n + n) → k = i := in_group hn (Nat.mod_lt _ hn)
    by_cases e : k = i
    · rw [if_pos e] at h2 ⊢
      split at h1 <;> omega
    · rw [if_neg e] at h2 ⊢
      rw [if_neg (fun h => e (h3 h))] at h1
      omega
theorem mxTo_grp (s : List UInt8) {n : Nat} (hn : 0 < n) (m k : Nat) (c : UInt8) : ∀ i, grpD (mxTo s n m i) n k c ≤ grpD s n k c + (if k < i then n / 2 else 0)
  | 0 => by simp [mxTo]
  | i + 1 => by
    simp only [mxTo]
    have h1 := mxIn_grp (mxTo s n m i) hn m i k c (n / 2)
    have h2 := mxTo_grp s hn m k c i
    split at h1 <;> split at h2 <;> split <;> omega
theorem cut_rep {l : List UInt8} {n k : Nat} (hn : 0 < n) (hk : k < l.length) : cutQ (repTo l n (l.length * n)) (k * n) n = List.replicate n (l.getD k 0) := by
  have hm : k * n + n ≤ l.length * n := by
    have : (k + 1) * n ≤ l.length * n := Nat.mul_le_mul_right n hk
    rw [Nat.succ_mul] at this; omega
  have hlen : (cutQ (repTo l n (l.length * n)) (k * n) n).length = n := cutQ_len (by rw [repTo_len]; exact hm)
  apply List.ext_getElem (by rw [hlen, List.length_replicate])
  intro j h1 h2
  rw [hlen] at h1
  have e := cutQ_getD (repTo l n (l.length * n)) (k * n) n j h1
  rw [repTo_getD _ _ _ _ (by omega), show (k * n + j) / n = k by rw [Nat.mul_comm, Nat.mul_add_div hn, Nat.div_eq_of_lt h1, Nat.add_zero]] at e
  rw [List.getD_eq_getElem?_getD, List.getElem?_eq_getElem (by omega), Option.getD_some] at e
  rw [e, List.getElem_replicate]
theorem grp_rep {l : List UInt8} {n k : Nat} (hn : 0 < n) (hk : k < l.length) (hb : bit (l.getD k 0)) : grpD (repTo l n (l.length * n)) n k (l.getD k 0) = 0 := by
  unfold grpD
  rw [cut_rep hn hk]
  rcases hb with e | e <;> rw [e] <;> simp [List.count_replicate]
theorem grp_maj {x : List UInt8} {n k : Nat} (ho : n % 2 = 1) {c : UInt8} (hc : bit c) (h : grpD x n k c ≤ n / 2) : majBit x n k = c := by
  unfold grpD at h
  unfold majBit
  have := count_le (cutQ x (k * n) n)
  have h2 : (cutQ x (k * n) n).length ≤ n := by simp [cutQ]; omega
  rcases hc with rfl | rfl
  · rw [if_neg (by decide)] at h
    rw [if_neg (by omega)]
  · rw [if_pos rfl] at h
    rw [if_pos (by omega)]
theorem maj_of {l x : List UInt8} {n : Nat} (ho : n % 2 = 1) (hb : ∀ k, k < l.length → bit (l.getD k 0)) (h : ∀ k, k < l.length → grpD x n k (l.getD k 0) ≤ n / 2) : majTo x n l.length = l := by
  apply List.ext_getElem (by rw [majTo_len])
  intro k h1 h2
  have e := majTo_getD x n l.length k h2
  rw [grp_maj ho (hb k h2) (h k h2), List.getD_eq_getElem?_getD, List.getElem?_eq_getElem h1, List.getD_eq_getElem?_getD, List.getElem?_eq_getElem h2] at e
  exact e
theorem maj_rep {l : List UInt8} {n : Nat} (ho : n % 2 = 1) (hb : ∀ k, k < l.length → bit (l.getD k 0)) : majTo (repTo l n (l.length * n)) n l.length = l :=
  maj_of ho hb fun k hk => by rw [grp_rep (by omega) hk (hb k hk)]; exact Nat.zero_le _
theorem maj_mx {l : List UInt8} {n : Nat} (ho : n % 2 = 1) (hb : ∀ k, k < l.length → bit (l.getD k 0)) (m : Nat) : majTo (mxTo (repTo l n (l.length * n)) n m l.length) n l.length = l :=
  maj_of ho hb fun k hk => by
    have := mxTo_grp (repTo l n (l.length * n)) (show 0 < n by omega) m k (l.getD k 0) l.length
    rw [grp_rep (by omega) hk (hb k hk), if_pos hk] at this
    omega
theorem flip_bitAt {l : List UInt8} (h : ∀ k, k < l.length → bit (l.getD k 0)) {p : Nat} (hp : p < l.length) : ∀ k, k < (flipL l p).length → bit ((flipL l p).getD k 0) := fun k hk => by
  rw [flipL_len] at hk
  by_cases e : k = p
  · subst e
    rw [flipL, List.getD_eq_getElem?_getD, List.getElem?_set_self hk]
    exact inv1_bit (h k hk)
  · rw [flipL, List.getD_eq_getElem?_getD, List.getElem?_set_ne (Ne.symm e), ← List.getD_eq_getElem?_getD]
    exact h k hk
theorem grp_lt {n i L q : Nat} (hi : i < L) (hq : q < n) : i * n + q < L * n := by
  have : (i + 1) * n ≤ L * n := Nat.mul_le_mul_right n hi
  rw [Nat.succ_mul] at this; omega
theorem mxIn_bits {x : List UInt8} {n m i L : Nat} (hn : 0 < n) (hi : i < L) (hL : x.length = L * n) (h : ∀ k, k < x.length → bit (x.getD k 0)) : ∀ j k, k < x.length → bit ((mxIn x n m i j).getD k 0)
  | 0, k, hk => h k hk
  | j + 1, k, hk => by
    simp only [mxIn]
    have hl := mxIn_len x n m i j
    exact flip_bitAt (fun k hk => mxIn_bits hn hi hL h j k (by omega)) (by rw [hl, hL]; exact grp_lt hi (Nat.mod_lt _ hn)) k (by rw [flipL_len]; omega)
theorem mxTo_bits {s : List UInt8} {n m L : Nat} (hn : 0 < n) (hL : s.length = L * n) (h : ∀ k, k < s.length → bit (s.getD k 0)) : ∀ i, i ≤ L → ∀ k, k < s.length → bit ((mxTo s n m i).getD k 0)
  | 0, _, k, hk => h k hk
  | i + 1, hi, k, hk => by
    simp only [mxTo]
    have hl := mxTo_len s n m i
    exact mxIn_bits hn (show i < L by omega) (by rw [hl, hL]) (fun k hk => mxTo_bits hn hL h i (by omega) k (by omega)) _ k (by omega)
end Go.Proofs.Ytmfblphnedoejaa
