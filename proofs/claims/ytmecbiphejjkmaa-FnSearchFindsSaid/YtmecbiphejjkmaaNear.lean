/- Searches for the offset of a sharp pilot: plain facts. -/
import Derived.Test.YtmecbiphejjkmaaShape
import Derived.Test.YtmecbiphejjkmaaSearch
namespace Go.Proofs.Ytmecbiphejjkmaa
set_option maxRecDepth 20000
open Go.ChangeShapes Go.WideShapes Go.ChangeAt Go.RowKit
set_option linter.unusedVariables false
set_option linter.unusedSimpArgs false

theorem srch_find {L st : Nat} {hit : Nat → Bool} : ∀ f k q0, k ≤ q0 → q0 < k + f → q0 * st < L → hit (q0 * st) = true → ∃ q, srchK L st hit f k = some q ∧ k ≤ q ∧ q ≤ q0 ∧ hit (q * st) = true
  | 0, k, q0, h1, h2, _, _ => by omega
  | f + 1, k, q0, h1, h2, h3, h4 => by
    have hk : k * st < L := Nat.lt_of_le_of_lt (Nat.mul_le_mul_right st h1) h3
    cases hh : hit (k * st) with
    | true => exact ⟨k, srch_hit hk hh, Nat.le_refl _, h1, hh⟩
    | false =>
      have hne : k ≠ q0 := fun e => by rw [e, h4] at hh; cases hh
      obtain ⟨q, a, b, c, d⟩ := srch_find f (k + 1) q0 (by omega) (by omega) h3 h4
      exact ⟨q, by rw [srch_next hk hh, a], by omega, c, d⟩
theorem near_iff {l : List UInt8} {m a i L : Nat} (hL : L = l.length * m) (hs : Sharp l) (hm : 0 < m) (ha : a < L) (hi : i < L) : (L : Int) - ((m / 2 * (l.length + 1) : Nat) : Int) ≤ corr l m a i ↔ dN L a i ≤ m / 2 := by
  rw [corr_dN hL hs hm ha hi]
  constructor
  · intro h
    by_cases hd : dN L a i ≤ m / 2
    · exact hd
    · exfalso
      split at h
      · have h1 : (m / 2 + 1) * (l.length + 1) ≤ dN L a i * (l.length + 1) := Nat.mul_le_mul_right _ (by omega)
        have h2 : ((dN L a i * (l.length + 1) : Nat) : Int) = (dN L a i : Int) * ((l.length : Int) + 1) := by simp
        rw [Nat.succ_mul] at h1
        rw [← h2] at h
        omega
      · have h1 : (m / 2 + 1) * (l.length + 1) ≤ m * (l.length + 1) := Nat.mul_le_mul_right _ (by omega)
        have h4 : m * (l.length + 1) = L + m := by rw [hL, Nat.mul_add, Nat.mul_comm m, Nat.mul_one]
        rw [h4, Nat.succ_mul] at h1
        omega
  · intro h
    rw [if_pos (by omega)]
    have h1 : dN L a i * (l.length + 1) ≤ m / 2 * (l.length + 1) := Nat.mul_le_mul_right _ h
    have h2 : ((dN L a i * (l.length + 1) : Nat) : Int) = (dN L a i : Int) * ((l.length : Int) + 1) := by simp
    rw [← h2]
    omega
theorem near_mult {n m a L : Nat} (hL : L = n * m) (hm : 0 < m) (ha : a < L) : ∃ q0, q0 < n ∧ q0 * m < L ∧ dN L a (q0 * m) ≤ m / 2 := by
  obtain ⟨b, hb⟩ : ∃ b, b = a / m := ⟨_, rfl⟩
  obtain ⟨r, hr⟩ : ∃ r, r = a % m := ⟨_, rfl⟩
  have hab := Nat.div_add_mod a m
  have hrm := Nat.mod_lt a hm
  rw [← hb, ← hr, Nat.mul_comm] at hab
  rw [← hr] at hrm
  have hbn : b < n := by rw [hb]; exact (Nat.div_lt_iff_lt_mul hm).2 (by omega)
  have hbm : b * m + m ≤ L := by rw [hL, ← Nat.succ_mul]; exact Nat.mul_le_mul_right m hbn
  by_cases h2 : 2 * r ≤ m
  · refine ⟨b, hbn, by omega, ?_⟩
    unfold dN
    split <;> omega
  · by_cases hn : b + 1 < n
    · have hbm2 : b * m + m + m ≤ L := by rw [hL, ← Nat.succ_mul, ← Nat.succ_mul]; exact Nat.mul_le_mul_right m hn
      refine ⟨b + 1, hn, by rw [Nat.succ_mul]; omega, ?_⟩
      rw [Nat.succ_mul]
      unfold dN
      split <;> omega
    · have hLn : L = b * m + m := by rw [hL, ← Nat.succ_mul]; congr 1; omega
      refine ⟨0, by omega, by omega, ?_⟩
      rw [Nat.zero_mul]
      unfold dN
      split <;> omega
/-- what a search in steps of a chip finds -/
theorem find_chip {Z : List Int} {l : List UInt8} {m a g L : Nat} (hL : L = l.length * m) (hs : Sharp l) (hm : 0 < m) (ha : a < L) (hg : 1 ≤ g) (hz : ∀ i, score Z l m i 0 = (g : Int) * corr l m a i) :
    ∃ q, sfind Z l m m ((g : Int) * ((L : Int) - ((m / 2 * (l.length + 1) : Nat) : Int))) = some q ∧ q < l.length ∧ q * m < L ∧ dN L a (q * m) ≤ m / 2 := by
  obtain ⟨q0, h1, h2, h3⟩ := near_mult hL hm ha
  have hgi : (0 : Int) < (g : Int) := by omega
  have hit : ∀ i, i < L → (hitB Z l m ((g : Int) * ((L : Int) - ((m / 2 * (l.length + 1) : Nat) : Int))) i = true ↔ dN L a i ≤ m / 2) := fun i hi => by
    unfold hitB
    rw [decide_eq_true_iff, hz i]
    constructor
    · intro h; exact (near_iff hL hs hm ha hi).1 (Int.le_of_mul_le_mul_left h hgi)
    · intro h; exact Int.mul_le_mul_of_nonneg_left ((near_iff hL hs hm ha hi).2 h) (by omega)
  have hn : l.length ≤ L := by rw [hL]; exact Nat.le_mul_of_pos_right _ hm
  obtain ⟨q, e, _, hq, hh⟩ := srch_find (L := L) (st := m) (hit := hitB Z l m ((g : Int) * ((L : Int) - ((m / 2 * (l.length + 1) : Nat) : Int)))) (L + 1) 0 q0 (Nat.zero_le _) (by omega) h2 ((hit _ h2).2 h3)
  have hqm : q * m < L := Nat.lt_of_le_of_lt (Nat.mul_le_mul_right m hq) h2
  exact ⟨q, by unfold sfind; rw [← hL]; exact e, by omega, hqm, (hit _ hqm).1 hh⟩
/-- what a search in steps of one sample finds with the full score as threshold -/
theorem find_one {Z : List Int} {l : List UInt8} {m a g L : Nat} (hL : L = l.length * m) (hs : Sharp l) (hm : 0 < m) (ha : a < L) (hg : 1 ≤ g) (hz : ∀ i, score Z l m i 0 = (g : Int) * corr l m a i) :
    sfind Z l m 1 ((g : Int) * (L : Int)) = some a := by
  have hgi : (0 : Int) < (g : Int) := by omega
  have hit : ∀ i, i < L → hitB Z l m ((g : Int) * (L : Int)) i = true → i = a := fun i hi h => by
    unfold hitB at h
    rw [decide_eq_true_iff, hz i] at h
    have h1 := Int.le_of_mul_le_mul_left h hgi
    by_cases e : i = a
    · exact e
    · have := corr_less hL hs hm ha hi e
      omega
  have ha2 : hitB Z l m ((g : Int) * (L : Int)) (a * 1) = true := by
    unfold hitB
    rw [Nat.mul_one, decide_eq_true_iff, hz a, corr_own hL hs hm ha]
    exact Int.le_refl _
  obtain ⟨q, e, _, hq, hh⟩ := srch_find (L := L) (st := 1) (hit := hitB Z l m ((g : Int) * (L : Int))) (L + 1) 0 a (Nat.zero_le _) (by omega) (by omega) ha2
  rw [Nat.mul_one] at hh
  have := hit q (by omega) hh
  unfold sfind
  rw [← hL, e, this]
end Go.Proofs.Ytmecbiphejjkmaa
