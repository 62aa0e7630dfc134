/- Plain facts of sums over periods: the scores of pilots depend on the distance of their offsets, and are made of the scores of whole chips. -/
import Derived.Test.YtholipfekecloaaPsig
namespace Go.Proofs.Ytholipfekecloaa
set_option maxRecDepth 20000
open Go.ChangeShapes Go.WideShapes Go.ChangeAt Go.RowKit
set_option linter.unusedVariables false
set_option linter.unusedSimpArgs false

/-- a sum -/
def sm (f : Nat → Int) : Nat → Int
  | 0 => 0
  | k + 1 => sm f k + f k
theorem sm_congr {f g : Nat → Int} : ∀ n, (∀ j, j < n → f j = g j) → sm f n = sm g n
  | 0, _ => rfl
  | n + 1, h => by rw [sm, sm, sm_congr n (fun j hj => h j (by omega)), h n (by omega)]
theorem sm_add (f g : Nat → Int) : ∀ n, sm (fun j => f j + g j) n = sm f n + sm g n
  | 0 => rfl
  | n + 1 => by simp only [sm]; rw [sm_add f g n]; omega
theorem sm_mul (a : Int) (f : Nat → Int) : ∀ n, sm (fun j => a * f j) n = a * sm f n
  | 0 => by simp [sm]
  | n + 1 => by simp only [sm]; rw [sm_mul a f n, Int.mul_add]
theorem sm_head (f : Nat → Int) : ∀ n, sm (fun j => f (j + 1)) n + f 0 = sm f n + f n
  | 0 => rfl
  | n + 1 => by have := sm_head f n; simp only [sm]; omega
theorem sm_shift {f : Nat → Int} {L : Nat} (hp : ∀ j, f (j + L) = f j) : ∀ s, sm (fun j => f (j + s)) L = sm f L
  | 0 => rfl
  | s + 1 => by
    have h := sm_head (fun j => f (j + s)) L
    have hL : f (L + s) = f (0 + s) := by rw [Nat.add_comm L s, Nat.zero_add]; exact hp s
    have e : (fun j => f (j + (s + 1))) = fun j => (fun j => f (j + s)) (j + 1) := by funext j; show f _ = f _; congr 1; omega
    have ih := sm_shift hp s
    rw [e]
    simp only at h ⊢
    omega
theorem sm_append (f : Nat → Int) (a : Nat) : ∀ b, sm f (a + b) = sm f a + sm (fun t => f (a + t)) b
  | 0 => by simp [sm]
  | b + 1 => by rw [← Nat.add_assoc, sm, sm_append f a b, sm]; omega
theorem sm_block (f : Nat → Int) (m : Nat) : ∀ n, sm f (n * m) = sm (fun c => sm (fun t => f (c * m + t)) m) n
  | 0 => by simp [sm]
  | n + 1 => by rw [Nat.succ_mul, sm_append, sm_block f m n, sm]
theorem sm_two (x y : Int) (r : Nat) : ∀ m, r ≤ m → sm (fun t => if t < r then y else x) m = (r : Int) * y + ((m : Int) - (r : Int)) * x
  | m, h => by
    obtain ⟨d, rfl⟩ : ∃ d, m = r + d := ⟨m - r, by omega⟩
    rw [sm_append]
    have e1 : ∀ n, n ≤ r → sm (fun t => if t < r then y else x) n = (n : Int) * y := by
      intro n
      induction n with
      | zero => intro _; simp [sm]
      | succ n ih => intro hn; rw [sm, ih (by omega), if_pos (by omega), Int.natCast_add, Int.add_mul]; simp
    have e2 : ∀ n, sm (fun t => if r + t < r then y else x) n = (n : Int) * x := by
      intro n
      induction n with
      | zero => simp [sm]
      | succ n ih => rw [sm, ih, if_neg (by omega), Int.natCast_add, Int.add_mul]; simp
    rw [e1 r (Nat.le_refl _), e2 d]
    have e3 : ((r + d : Nat) : Int) - (r : Int) = (d : Int) := by omega
    rw [e3]
theorem scT_sm (z : List Int) (l : List UInt8) (m off fr : Nat) : ∀ k, scT z l m off fr k = sm (fun j => z.getD (fr + j) 0 * pchip l m off j) k
  | 0 => rfl
  | k + 1 => by rw [scT, sm, scT_sm z l m off fr k]
theorem plc_per (L off j : Nat) : plc L off (j + L) = plc L off j := by
  unfold plc
  rw [show j + L + (L - off) = j + (L - off) + L by omega, Nat.add_mod_right]
theorem pchip_per (l : List UInt8) (m off j : Nat) : pchip l m off (j + l.length * m) = pchip l m off j := by unfold pchip; rw [plc_per]
/-- the correlation of two offsets of a pilot over a period -/
def corr (l : List UInt8) (m a b : Nat) : Int := sm (fun j => pchip l m a j * pchip l m b j) (l.length * m)
theorem plc_own {L k j : Nat} (hk : k ≤ L) : plc L k (j + k) = plc L 0 j := by unfold plc; congr 1; omega
theorem plc_other {L k i j : Nat} (hk : k < L) (hi : i < L) : plc L ((i + k) % L) (j + k) = plc L i j := by
  unfold plc
  by_cases h : i + k < L
  · rw [Nat.mod_eq_of_lt h]; congr 1; omega
  · have e : (i + k) % L = i + k - L := by rw [Nat.mod_eq_sub_mod (by omega), Nat.mod_eq_of_lt (by omega)]
    rw [e, show j + k + (L - (i + k - L)) = j + (L - i) + L by omega, Nat.add_mod_right]
theorem corr_shift {l : List UInt8} {m k i : Nat} (hk : k < l.length * m) (hi : i < l.length * m) : corr l m k ((i + k) % (l.length * m)) = corr l m 0 i := by
  unfold corr
  rw [← sm_shift (f := fun j => pchip l m k j * pchip l m ((i + k) % (l.length * m)) j) (L := l.length * m) (fun j => by simp only [pchip_per]) k]
  apply sm_congr
  intro j _
  simp only [pchip]
  rw [plc_own (by omega), plc_other hk hi]
/-- the score of a whole period of a pilot -/
theorem score_corr {z : List Int} {l : List UInt8} {m a : Nat} {g : Int} (hz : ∀ j, j < l.length * m → z.getD j 0 = g * pchip l m a j) (b : Nat) : score z l m b 0 = g * corr l m a b := by
  unfold score corr
  rw [scT_sm, ← sm_mul]
  apply sm_congr
  intro j hj
  rw [Nat.zero_add, hz j hj, Int.mul_assoc]
/-- the correlation of whole chips -/
def acf (l : List UInt8) (q : Nat) : Int := sm (fun c => chip (l.getD c 0) * chip (l.getD ((c + (l.length - q)) % l.length) 0)) l.length
theorem div_at {m : Nat} (hm : 0 < m) (a t : Nat) (ht : t < m) : (a * m + t) / m = a := by rw [Nat.mul_comm, Nat.mul_add_div hm, Nat.div_eq_of_lt ht, Nat.add_zero]
theorem corr_chips {l : List UInt8} {m q r : Nat} (hm : 0 < m) (hq : q < l.length) (hr : r < m) : corr l m 0 (q * m + r) = (r : Int) * acf l (q + 1) + ((m : Int) - (r : Int)) * acf l q := by
  obtain ⟨n, hn⟩ : ∃ n, n = l.length := ⟨_, rfl⟩
  unfold corr
  rw [sm_block]
  have key : ∀ c, c < l.length → sm (fun t => pchip l m 0 (c * m + t) * pchip l m (q * m + r) (c * m + t)) m = (r : Int) * (chip (l.getD c 0) * chip (l.getD ((c + (l.length - (q + 1))) % l.length) 0)) + ((m : Int) - (r : Int)) * (chip (l.getD c 0) * chip (l.getD ((c + (l.length - q)) % l.length) 0)) := by
    intro c hc
    rw [← sm_two _ _ r m (by omega)]
    apply sm_congr
    intro t ht
    have hcm : c * m + m ≤ l.length * m := by rw [← Nat.succ_mul]; exact Nat.mul_le_mul_right m hc
    have hqm : q * m + m ≤ l.length * m := by rw [← Nat.succ_mul]; exact Nat.mul_le_mul_right m hq
    have e1 : plc (l.length * m) 0 (c * m + t) / m = c := by
      unfold plc
      rw [Nat.sub_zero, Nat.add_mod_right, Nat.mod_eq_of_lt (by omega), div_at hm c t ht]
    have e2 : plc (l.length * m) (q * m + r) (c * m + t) / m = if t < r then (c + (l.length - (q + 1))) % l.length else (c + (l.length - q)) % l.length := by
      unfold plc
      rw [Nat.mul_comm l.length m, Nat.mod_mul_right_div_self]
      split
      · rename_i h
        congr 1
        have e3 : c * m + t + (m * l.length - (q * m + r)) = (c + (l.length - (q + 1))) * m + (t + m - r) := by
          rw [Nat.add_mul, Nat.sub_mul, Nat.succ_mul, Nat.mul_comm m l.length]
          omega
        rw [e3, div_at hm _ _ (by omega)]
      · rename_i h
        congr 1
        have e3 : c * m + t + (m * l.length - (q * m + r)) = (c + (l.length - q)) * m + (t - r) := by
          rw [Nat.add_mul, Nat.sub_mul, Nat.mul_comm m l.length]
          omega
        rw [e3, div_at hm _ _ (by omega)]
    simp only [pchip]
    rw [e1, e2]
    split <;> rfl
  rw [sm_congr _ key, sm_add, sm_mul, sm_mul]
  rfl
theorem chip_sq (c : UInt8) : chip c * chip c = 1 := by rcases chip_two c with h | h <;> rw [h] <;> rfl
theorem acf_own (l : List UInt8) (q : Nat) (h : q = 0 ∨ q = l.length) : acf l q = (l.length : Int) := by
  unfold acf
  have e : ∀ c, c < l.length → chip (l.getD c 0) * chip (l.getD ((c + (l.length - q)) % l.length) 0) = 1 := by
    intro c hc
    have e2 : (c + (l.length - q)) % l.length = c := by
      rcases h with rfl | rfl
      · rw [Nat.sub_zero, Nat.add_mod_right, Nat.mod_eq_of_lt hc]
      · rw [Nat.sub_self, Nat.add_zero, Nat.mod_eq_of_lt hc]
    rw [e2, chip_sq]
  rw [sm_congr _ e]
  have : ∀ n : Nat, sm (fun _ => (1 : Int)) n = (n : Int) := by
    intro n
    induction n with
    | zero => rfl
    | succ n ih => rw [sm, ih]; omega
  exact this _
/-- a code like those of maximal registers: shifted by whole chips it has the correlation -1 -/
def Sharp (l : List UInt8) : Prop := 3 ≤ l.length ∧ ∀ q, 1 ≤ q → q < l.length → acf l q = -1
/-- the correlation behind d samples, by the distance d or L - d -/
theorem corr_near {l : List UInt8} {m d : Nat} (hs : Sharp l) (hm : 0 < m) (hd : d < m) : corr l m 0 d = ((l.length * m : Nat) : Int) - (d : Int) * ((l.length : Int) + 1) := by
  have h := corr_chips (l := l) (q := 0) hm (by have := hs.1; omega) hd
  rw [Nat.zero_mul, Nat.zero_add, Nat.zero_add, acf_own l 0 (.inl rfl), hs.2 1 (by omega) (by have := hs.1; omega)] at h
  rw [h, Int.natCast_mul, Int.sub_mul, Int.mul_add, Int.mul_comm (m : Int)]
  omega
theorem corr_mid {l : List UInt8} {m d : Nat} (hs : Sharp l) (hm : 0 < m) (hd : m ≤ d) (hd2 : d ≤ l.length * m - m) : corr l m 0 d = -(m : Int) := by
  have hdm := Nat.div_add_mod d m
  have hr := Nat.mod_lt d hm
  obtain ⟨q, hq⟩ : ∃ q, q = d / m := ⟨_, rfl⟩
  obtain ⟨r, hr'⟩ : ∃ r, r = d % m := ⟨_, rfl⟩
  rw [← hq, ← hr'] at hdm
  rw [← hr'] at hr
  have hnm : l.length * m = (l.length - 1) * m + m := by rw [← Nat.succ_mul]; congr 1; have := hs.1; omega
  have hq1 : 1 ≤ q := by rw [hq]; exact (Nat.le_div_iff_mul_le hm).2 (by omega)
  have hq2 : q ≤ l.length - 1 := by
    have : m * q ≤ m * (l.length - 1) := by rw [Nat.mul_comm m (l.length - 1)]; omega
    exact Nat.le_of_mul_le_mul_left this hm
  have h := corr_chips (l := l) (q := q) (r := r) hm (by have := hs.1; omega) hr
  rw [Nat.mul_comm q m, hdm, hs.2 q hq1 (by have := hs.1; omega)] at h
  by_cases he : q = l.length - 1
  · have hr0 : r = 0 := by
      have : m * q = (l.length - 1) * m := by rw [he, Nat.mul_comm]
      omega
    rw [h, hr0]
    simp
  · rw [hs.2 (q + 1) (by omega) (by omega)] at h
    rw [h]
    omega
theorem corr_far {l : List UInt8} {m d : Nat} (hs : Sharp l) (hm : 0 < m) (hd1 : 1 ≤ d) (hd : d < m) : corr l m 0 (l.length * m - d) = ((l.length * m : Nat) : Int) - (d : Int) * ((l.length : Int) + 1) := by
  have hnm : l.length * m = (l.length - 1) * m + m := by rw [← Nat.succ_mul]; congr 1; have := hs.1; omega
  have h := corr_chips (l := l) (q := l.length - 1) (r := m - d) hm (by have := hs.1; omega) (by omega)
  rw [show l.length - 1 + 1 = l.length by have := hs.1; omega, acf_own l l.length (.inr rfl), hs.2 (l.length - 1) (by have := hs.1; omega) (by have := hs.1; omega)] at h
  rw [show l.length * m - d = (l.length - 1) * m + (m - d) by omega, h]
  have e : ((m - d : Nat) : Int) = (m : Int) - (d : Int) := by omega
  rw [e, Int.natCast_mul, Int.sub_mul, Int.mul_add, Int.mul_comm (m : Int)]
  omega
end Go.Proofs.Ytholipfekecloaa
