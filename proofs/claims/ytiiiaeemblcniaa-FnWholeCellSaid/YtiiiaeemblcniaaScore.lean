/- Contracts of the scores of signals with pilots. -/
import Derived.Test.YtiiiaeemblcniaaDist
import Derived.Test.YtiiiaeemblcniaaSig
namespace Go.Proofs.Ytiiiaeemblcniaa
set_option maxRecDepth 20000
open Go.ChangeShapes Go.WideShapes Go.ChangeAt Go.RowKit
set_option linter.unusedVariables false
set_option linter.unusedSimpArgs false

/-- the chip of a bit -/
def chip (c : UInt8) : Int := if c = 48 then 1 else -1
theorem chip_two (c : UInt8) : chip c = 1 ∨ chip c = -1 := by unfold chip; split; exact .inl rfl; exact .inr rfl
theorem chip_mul {x : Int} {a : Int} (c : UInt8) (h : -a ≤ x ∧ x ≤ a) : -a ≤ x * chip c ∧ x * chip c ≤ a := by
  rcases chip_two c with h1 | h1 <;> rw [h1] <;> omega
/-- the place in the period of the sample k of a pilot with an offset -/
def plc (L off k : Nat) : Nat := (k + (L - off)) % L
theorem plc_lt {L : Nat} (off k : Nat) (h : 0 < L) : plc L off k < L := Nat.mod_lt _ h
theorem plc_int {L off k : Nat} (h : 0 < L) (ho : off ≤ L) : ((k : Int) - (off : Int)) % (L : Int) = (plc L off k : Int) := by
  unfold plc
  have e : ((k : Int) - (off : Int)) % (L : Int) = ((k : Int) - (off : Int) + (L : Int)) % (L : Int) := by rw [Int.add_emod_right]
  rw [e]
  have e2 : (k : Int) - (off : Int) + (L : Int) = ((k + (L - off) : Nat) : Int) := by omega
  rw [e2]; rfl
theorem plc_zero {L off : Nat} (h : 0 < L) (ho : off ≤ L) : (-(off : Int)) % (L : Int) = (plc L off 0 : Int) := by
  have := plc_int (k := 0) h ho
  rw [← this]; congr 1; omega
theorem plc_wrap {L off k : Nat} (h : plc L off k + 1 = L) : plc L off (k + 1) = 0 := by
  unfold plc at *
  have e : k + 1 + (L - off) = (k + (L - off)) + 1 := by omega
  rw [e, Nat.add_mod]
  by_cases h1 : L = 1
  · subst h1; omega
  · rw [Nat.mod_eq_of_lt (a := 1) (by omega), h, Nat.mod_self]
theorem plc_next {L off k : Nat} (h0 : 0 < L) (h : plc L off k + 1 ≠ L) : plc L off (k + 1) = plc L off k + 1 := by
  have hl := plc_lt off k h0
  unfold plc at *
  have e : k + 1 + (L - off) = (k + (L - off)) + 1 := by omega
  rw [e, Nat.add_mod, Nat.mod_eq_of_lt (a := 1) (by omega), Nat.mod_eq_of_lt (by omega)]
def pchip (l : List UInt8) (m off k : Nat) : Int := chip (l.getD (plc (l.length * m) off k / m) 0)
theorem plc_div {L m off k n : Nat} (hL : L = n * m) (h : 0 < L) (hm : 0 < m) : plc L off k / m < n := (Nat.div_lt_iff_lt_mul hm).2 (by rw [← hL]; exact plc_lt _ _ h)
/-- the sum of the first k products -/
def scT (z : List Int) (l : List UInt8) (m off fr : Nat) : Nat → Int
  | 0 => 0
  | k + 1 => scT z l m off fr k + z.getD (fr + k) 0 * pchip l m off k
def score (z : List Int) (l : List UInt8) (m off fr : Nat) : Int := scT z l m off fr (l.length * m)
theorem scT_end {z : List Int} {l : List UInt8} {m off fr k : Nat} (hz : z.length ≤ fr + k) : ∀ d, scT z l m off fr (k + d) = scT z l m off fr k
  | 0 => rfl
  | d + 1 => by
    rw [← Nat.add_assoc, scT, scT_end hz d, List.getD_eq_getElem?_getD, List.getElem?_eq_none (by omega)]
    simp
theorem scT_le {z : List Int} (hz : sigOK z = true) (l : List UInt8) (m off fr k : Nat) : -(1000000 * (k : Int)) ≤ scT z l m off fr k ∧ scT z l m off fr k ≤ 1000000 * (k : Int) := by
  induction k with
  | zero => simp [scT]
  | succ k ih =>
    have h := chip_mul (l.getD (plc (l.length * m) off k / m) 0) (sig_at hz (fr + k))
    simp only [scT, pchip]
    omega
theorem score_exit {z : List Int} {l : List UInt8} {m off fr k : Nat} (hk : k ≤ l.length * m) (h : ¬ k < l.length * m ∨ ¬ fr + k < z.length) : score z l m off fr = scT z l m off fr k := by
  unfold score
  rcases h with h | h
  · rw [show l.length * m = k by omega]
  · rw [show l.length * m = k + (l.length * m - k) by omega, scT_end (by omega)]
theorem score_le {z : List Int} (hz : sigOK z = true) {l : List UInt8} {m : Nat} (off fr : Nat) (hL : l.length * m ≤ 2040) : -2040000000 ≤ score z l m off fr ∧ score z l m off fr ≤ 2040000000 := by
  have := scT_le hz l m off fr (l.length * m)
  unfold score
  omega
theorem tmod_emod (k n : Int) (h : 0 < n) : k % n = if Int.tmod k n < 0 then Int.tmod k n + n else Int.tmod k n := by
  rcases Int.lt_or_le k 0 with hk | hk
  · have e := Int.neg_tmod (-k) n
    have e3 : (-k).tmod n = (-k) % n := Int.tmod_eq_emod_of_nonneg (by omega)
    rw [Int.neg_neg, e3] at e
    rw [e]
    have h1 := Int.emod_nonneg (-k) (show n ≠ 0 by omega)
    have h2 := Int.emod_lt_of_pos (-k) h
    have h3 := Int.emod_nonneg k (show n ≠ 0 by omega)
    have h4 := Int.emod_lt_of_pos k h
    have d1 : n ∣ (k + (-k) % n) := by
      have : k + (-k) % n = n * (-((-k) / n)) := by have := Int.emod_def (-k) n; rw [this, Int.mul_neg]; omega
      exact ⟨_, this⟩
    have e2 : k % n = (-((-k) % n)) % n := by
      rw [Int.emod_eq_emod_iff_emod_sub_eq_zero]
      exact Int.emod_eq_zero_of_dvd (by rw [Int.sub_neg]; exact d1)
    by_cases h0 : (-k) % n = 0
    · rw [e2, h0]; simp
    · rw [if_pos (by omega), e2]
      have : (-((-k) % n)) % n = (-((-k) % n) + n) % n := by rw [Int.add_emod_right]
      rw [this, Int.emod_eq_of_lt (by omega) (by omega)]
  · rw [Int.tmod_eq_emod_of_nonneg hk, if_neg (by have := Int.emod_nonneg k (show n ≠ 0 by omega); omega)]
theorem tmod_bd (k n : Int) (h : 0 < n) : -n ≤ Int.tmod k n ∧ Int.tmod k n < n := by
  have h1 := tmod_emod k n h
  have h3 := Int.emod_nonneg k (show n ≠ 0 by omega)
  have h4 := Int.emod_lt_of_pos k h
  split at h1 <;> omega
theorem modS_any (k n : Int) (w : World) (hn : 1 ≤ n) (hn' : n ≤ 1000000) : Calls Try.prog 90 #[.int .i64 k, .int .i64 n] w fun e w' => e = .returned (.int .i64 (k % n)) ∧ w = w' := by
  have h1 := tmod_emod k n (by omega)
  have h2 := tmod_bd k n (by omega)
  by_cases hk : 0 ≤ k
  · have h5 := Int.emod_nonneg k (show n ≠ 0 by omega)
    have h6 := Int.emod_lt_of_pos k (show 0 < n by omega)
    have e : (k % n + n) % n = k % n := by rw [Int.add_emod_right, Int.emod_emod]
    have HE := Lib.hid e
    clear h1 h2 e
    go_enter Try.func90, Try.ntmps90
    go_wp2
    go_ret
    exact ⟨ret_int HE.out, rfl⟩
  · have e : Int.tmod k n % n = k % n := by
      rw [h1]
      have h3 := Int.emod_nonneg k (show n ≠ 0 by omega)
      have h4 := Int.emod_lt_of_pos k (show 0 < n by omega)
      split
      · rename_i h0
        rw [if_pos h0] at h1
        rw [← Int.add_emod_right, Int.emod_eq_of_lt (by omega) (by omega)]
      · rename_i h0
        rw [Int.emod_eq_of_lt (by omega) (by omega)]
    have HE := Lib.hid e
    clear h1 e
    go_enter Try.func90, Try.ntmps90
    go_wp2
    go_ret
    exact ⟨ret_int HE.out, rfl⟩
theorem chipI_any (c : UInt8) (w : World) : Calls Try.prog 44 #[.int .u8 (c.toNat : Int)] w fun e w' => e = .returned (.int .i64 (chip c)) ∧ w' = w := by
  by_cases h : c = 48
  · have e : chip c = 1 := if_pos h
    rw [e]
    have b1 : ((c.toNat : Int) == 48) = true := by simpa using byte_48.1 h
    clear h e
    go_enter Try.func44, Try.ntmps44
    go_wp2
    go_ret
    exact ⟨rfl, rfl⟩
  · have e : chip c = -1 := if_neg h
    rw [e]
    have b1 : ((c.toNat : Int) == 48) = false := by simpa using mt byte_48.2 h
    clear h e
    go_enter Try.func44, Try.ntmps44
    go_wp2
    go_ret
    exact ⟨rfl, rfl⟩
/-- a valid pilot in numbers: its code, its samples a chip, its period -/
theorem pilot_nat {s : ByteArray} {n : Int} (h : pilotOK s.data.toList n = true) : ∃ m : Nat, n = m ∧ 1 ≤ m ∧ m ≤ 8 ∧ 1 ≤ s.size ∧ s.size ≤ 255 ∧ 1 ≤ s.size * m ∧ s.size * m ≤ 2040 := by
  obtain ⟨_, h1, h2, h3, h4, h5, h6⟩ := pilot_parts h
  obtain ⟨m, rfl⟩ : ∃ m : Nat, n = m := ⟨n.toNat, by omega⟩
  have e : (s.size : Int) * (m : Int) = ((s.size * m : Nat) : Int) := by simp
  rw [e] at h5 h6
  exact ⟨m, rfl, by omega, by omega, h3, h4, by omega, by omega⟩
end Go.Proofs.Ytiiiaeemblcniaa
