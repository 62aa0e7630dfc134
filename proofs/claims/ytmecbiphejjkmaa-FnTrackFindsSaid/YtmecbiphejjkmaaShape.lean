/- The scores of sharp pilots by the distance of offsets. -/
import Derived.Test.YtmecbiphejjkmaaSharp
import Derived.Test.YtmecbiphejjkmaaBest
import Derived.Test.YtmecbiphejjkmaaScale
import Derived.Test.YtmecbiphejjkmaaPath
namespace Go.Proofs.Ytmecbiphejjkmaa
set_option maxRecDepth 20000
open Go.ChangeShapes Go.WideShapes Go.ChangeAt Go.RowKit
set_option linter.unusedVariables false
set_option linter.unusedSimpArgs false

/-- the distance of two offsets -/
def dN (L a i : Nat) : Nat := if a ≤ i then min (i - a) (L - (i - a)) else min (a - i) (L - (a - i))
theorem dN_le {L a i : Nat} (ha : a < L) (hi : i < L) : dN L a i ≤ L / 2 := by unfold dN; split <;> omega
theorem dN_zero {L a i : Nat} (ha : a < L) (hi : i < L) : dN L a i = 0 ↔ i = a := by unfold dN; split <;> omega
theorem dN_own {L a : Nat} (ha : a < L) : dN L a a = 0 := (dN_zero ha ha).2 rfl
theorem dN_symm (L a i : Nat) : dN L a i = dN L i a := by unfold dN; split <;> split <;> omega
theorem off_dN {s : ByteArray} {m L a i : Nat} (hL : L = s.size * m) (hp : pilotOK s.data.toList (m : Int) = true) (ha : a < L) (hi : i < L) : offDist s (m : Int) (a : Int) (i : Int) = (dN L a i : Int) := by
  rw [dist_yes (off_ok hp (by omega)) (off_ok hp (by omega))]
  have e : (s.size : Int) * (m : Int) = (L : Int) := by rw [hL]; simp
  rw [e]
  unfold dN
  split <;> omega
theorem corr_min {l : List UInt8} {m d L : Nat} (hL : L = l.length * m) (hs : Sharp l) (hm : 0 < m) (hd : d < L) : corr l m 0 d = if min d (L - d) < m then (L : Int) - ((min d (L - d) : Nat) : Int) * ((l.length : Int) + 1) else -(m : Int) := by
  have h3 : 3 * m ≤ L := by rw [hL]; exact Nat.mul_le_mul_right m hs.1
  by_cases h1 : d < m
  · rw [Nat.min_eq_left (by omega), if_pos h1, corr_near hs hm h1, hL]
  · by_cases h2 : L - d < m
    · rw [Nat.min_eq_right (by omega), if_pos h2]
      have := corr_far (d := L - d) hs hm (by omega) h2
      rw [← hL, show L - (L - d) = d by omega] at this
      exact this
    · rw [if_neg (by omega)]
      exact corr_mid hs hm (by omega) (by omega)
theorem corr_dN {l : List UInt8} {m a i L : Nat} (hL : L = l.length * m) (hs : Sharp l) (hm : 0 < m) (ha : a < L) (hi : i < L) : corr l m a i = if dN L a i < m then (L : Int) - (dN L a i : Int) * ((l.length : Int) + 1) else -(m : Int) := by
  by_cases h : a ≤ i
  · have h1 := corr_shift (l := l) (m := m) (k := a) (i := i - a) (by omega) (by omega)
    rw [← hL, Nat.sub_add_cancel h, Nat.mod_eq_of_lt hi] at h1
    rw [h1, corr_min hL hs hm (by omega)]
    unfold dN
    rw [if_pos h]
  · have h1 := corr_shift (l := l) (m := m) (k := a) (i := L - (a - i)) (by omega) (by omega)
    rw [← hL, show L - (a - i) + a = i + L by omega, Nat.add_mod_right, Nat.mod_eq_of_lt hi] at h1
    rw [h1, corr_min hL hs hm (by omega)]
    unfold dN
    rw [if_neg h, show L - (L - (a - i)) = a - i by omega, Nat.min_comm]
theorem corr_own {l : List UInt8} {m a L : Nat} (hL : L = l.length * m) (hs : Sharp l) (hm : 0 < m) (ha : a < L) : corr l m a a = (L : Int) := by
  rw [corr_dN hL hs hm ha ha, dN_own ha, if_pos hm]; simp
theorem corr_less {l : List UInt8} {m a i L : Nat} (hL : L = l.length * m) (hs : Sharp l) (hm : 0 < m) (ha : a < L) (hi : i < L) (hne : i ≠ a) : corr l m a i < (L : Int) := by
  rw [corr_dN hL hs hm ha hi]
  have h1 : dN L a i ≠ 0 := fun h => hne ((dN_zero ha hi).1 h)
  split
  · have : 0 < (dN L a i : Int) * ((l.length : Int) + 1) := Int.mul_pos (by omega) (by omega)
    omega
  · omega
theorem best_uniq {F : List Int} {n a : Nat} (ha : a ≤ n) (h : ∀ i, i ≤ n → i ≠ a → F.getD i 0 < F.getD a 0) : bestN F n = a := by
  by_cases e : bestN F n = a
  · exact e
  · have h1 := (best_spec F n a ha).1
    have h2 := h (bestN F n) (bestN_le F n) e
    omega
end Go.Proofs.Ytmecbiphejjkmaa
