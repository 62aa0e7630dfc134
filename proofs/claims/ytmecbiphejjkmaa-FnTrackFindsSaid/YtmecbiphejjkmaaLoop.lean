/- The tracking loop near the offset of a sharp pilot: plain facts. -/
import Derived.Test.YtmecbiphejjkmaaShape
namespace Go.Proofs.Ytmecbiphejjkmaa
set_option maxRecDepth 20000
open Go.ChangeShapes Go.WideShapes Go.ChangeAt Go.RowKit
set_option linter.unusedVariables false
set_option linter.unusedSimpArgs false

/-- the correlation at a distance -/
def Fd (n m L y : Nat) : Int := if y < m then (L : Int) - (y : Int) * ((n : Int) + 1) else -(m : Int)
theorem Fd_lt {n m L y1 y2 : Nat} (hL : L = n * m) (hm : 0 < m) (h : y1 < y2) (h1 : y1 < m) : Fd n m L y2 < Fd n m L y1 := by
  unfold Fd
  rw [if_pos h1]
  have e1 : ((y1 * (n + 1) : Nat) : Int) = (y1 : Int) * ((n : Int) + 1) := by simp
  split
  · have e2 : ((y2 * (n + 1) : Nat) : Int) = (y2 : Int) * ((n : Int) + 1) := by simp
    have h2 : y1 * (n + 1) < y2 * (n + 1) := Nat.mul_lt_mul_of_pos_right h (by omega)
    rw [← e1, ← e2]
    omega
  · have h2 : y1 * (n + 1) ≤ (m - 1) * (n + 1) := Nat.mul_le_mul_right _ (by omega)
    have h3 : (m - 1) * (n + 1) + (n + 1) = m * (n + 1) := by rw [← Nat.succ_mul]; congr 1; omega
    have h4 : m * (n + 1) = L + m := by rw [hL, Nat.mul_add, Nat.mul_comm m, Nat.mul_one]
    rw [← e1]
    omega
theorem dN_add {L a x : Nat} (ha : a < L) (hx : x < L) : dN L a ((a + x) % L) = min x (L - x) := by
  by_cases h : a + x < L
  · rw [Nat.mod_eq_of_lt h]; unfold dN; rw [if_pos (by omega), Nat.add_sub_cancel_left]
  · have e : (a + x) % L = a + x - L := by rw [Nat.mod_eq_sub_mod (by omega), Nat.mod_eq_of_lt (by omega)]
    rw [e]; unfold dN; rw [if_neg (by omega), show a - (a + x - L) = L - x by omega, show L - (L - x) = x by omega, Nat.min_comm]
theorem up_x (L a x h : Nat) : upTo L ((a + x) % L) h = (a + (x + h)) % L := by unfold upTo; rw [Nat.mod_add_mod, Nat.add_assoc]
theorem down_x {L a x h : Nat} (hh : h ≤ L) : downTo L ((a + x) % L) h = (a + (x + (L - h))) % L := by unfold downTo; rw [Nat.mod_add_mod, Nat.add_assoc]
/-- an offset at the distance y of a, above or below -/
def AtD (L a y off : Nat) : Prop := off = (a + y) % L ∨ off = (a + (L - y)) % L
theorem AtD.lt {L a y off : Nat} (h : AtD L a y off) (hL : 0 < L) : off < L := by rcases h with h | h <;> rw [h] <;> exact Nat.mod_lt _ hL
theorem AtD.own {L a off : Nat} (h : AtD L a 0 off) (ha : a < L) : off = a := by
  rcases h with h | h <;> rw [h]
  · exact Nat.mod_eq_of_lt ha
  · rw [Nat.sub_zero, Nat.add_mod_right, Nat.mod_eq_of_lt ha]
theorem AtD.dist {L a y off : Nat} (h : AtD L a y off) (ha : a < L) (hy : 2 * y ≤ L) : dN L a off = y := by
  by_cases h0 : y = 0
  · subst h0
    rw [h.own ha, dN_own ha]
  · rcases h with h | h
    · rw [h, dN_add ha (by omega)]; omega
    · rw [h, dN_add ha (by omega)]; omega
theorem corr_x {l : List UInt8} {m a x L : Nat} (hL : L = l.length * m) (hs : Sharp l) (hm : 0 < m) (ha : a < L) (hx : x < L) : corr l m a ((a + x) % L) = Fd l.length m L (min x (L - x)) := by
  rw [corr_dN hL hs hm ha (Nat.mod_lt _ (by omega)), dN_add ha hx]; rfl
theorem mod_wrap {L a x : Nat} (h : L ≤ x) : (a + x) % L = (a + (x - L)) % L := by rw [show a + x = a + (x - L) + L by omega, Nat.add_mod_right]
/-- the sign of the discriminator, and the step -/
theorem trk_at {Z : List Int} {l : List UInt8} {m a g L : Nat} (hL : L = l.length * m) (hs : Sharp l) (hm : 0 < m) (hm8 : m ≤ 8) (ha : a < L) (hg : 1 ≤ g) (hz : ∀ i, score Z l m i 0 = (g : Int) * corr l m a i) {y off : Nat} (hy : y ≤ m) (h : AtD L a y off) :
    AtD L a (y - 1) (trkN Z l m off) := by
  have h3 : 3 * m ≤ L := by rw [hL]; exact Nat.mul_le_mul_right m hs.1
  have hgi : (0 : Int) < (g : Int) := by omega
  obtain ⟨hb1, hb2, hb3⟩ := half_bd m (by omega) hm8
  obtain ⟨h', hh'⟩ : ∃ h', h' = half m := ⟨_, rfl⟩
  have he : early Z l m off = (g : Int) * (corr l m a (upTo L off h') - corr l m a (downTo L off h')) := by
    unfold early; rw [hz, hz, ← hL, ← hh', Int.mul_sub]
  rw [← hh'] at hb1 hb2 hb3
  have hst : trkN Z l m off = if 0 < early Z l m off then upTo L off 1 else if early Z l m off < 0 then downTo L off 1 else off := by unfold trkN; rw [← hL]
  by_cases h0 : y = 0
  · subst h0
    have hoa := h.own ha
    have e0 : off = (a + 0) % L := by rw [hoa, Nat.add_zero, Nat.mod_eq_of_lt ha]
    have e1 : corr l m a (upTo L off h') = corr l m a (downTo L off h') := by
      rw [e0, up_x, down_x (by omega), corr_x hL hs hm ha (by omega), corr_x hL hs hm ha (by omega)]
      congr 1; omega
    have e2 : early Z l m off = 0 := by rw [he, e1]; simp
    rw [hst, e2, if_neg (by omega), if_neg (by omega)]
    exact .inl (by rw [e0])
  · rcases h with h | h
    · have e1 : corr l m a (upTo L off h') = Fd l.length m L (min (y + h') (L - (y + h'))) := by rw [h, up_x, corr_x hL hs hm ha (by omega)]
      have e2 : corr l m a (downTo L off h') = Fd l.length m L (if h' ≤ y then y - h' else h' - y) := by
        rw [h, down_x (by omega)]
        split
        · rename_i hc
          rw [mod_wrap (by omega), corr_x hL hs hm ha (by omega)]
          congr 1; omega
        · rename_i hc
          rw [corr_x hL hs hm ha (by omega)]
          congr 1; omega
      have e3 : early Z l m off < 0 := by
        rw [he, e1, e2]
        have := Fd_lt (n := l.length) (L := L) (y1 := if h' ≤ y then y - h' else h' - y) (y2 := min (y + h') (L - (y + h'))) hL hm (by split <;> omega) (by split <;> omega)
        exact Int.mul_neg_of_pos_of_neg hgi (by omega)
      rw [hst, if_neg (by omega), if_pos e3, h, down_x (by omega), mod_wrap (by omega)]
      exact .inl (by congr 1; omega)
    · have e1 : corr l m a (downTo L off h') = Fd l.length m L (min (y + h') (L - (y + h'))) := by
        rw [h, down_x (by omega), mod_wrap (by omega), corr_x hL hs hm ha (by omega)]
        congr 1; omega
      have e2 : corr l m a (upTo L off h') = Fd l.length m L (if h' ≤ y then y - h' else h' - y) := by
        rw [h, up_x]
        split
        · rename_i hc
          by_cases hyh : y = h'
          · rw [mod_wrap (by omega), corr_x hL hs hm ha (by omega)]
            congr 1; omega
          · rw [corr_x hL hs hm ha (by omega)]
            congr 1; omega
        · rename_i hc
          rw [mod_wrap (by omega), corr_x hL hs hm ha (by omega)]
          congr 1; omega
      have e3 : 0 < early Z l m off := by
        rw [he, e1, e2]
        have := Fd_lt (n := l.length) (L := L) (y1 := if h' ≤ y then y - h' else h' - y) (y2 := min (y + h') (L - (y + h'))) hL hm (by split <;> omega) (by split <;> omega)
        exact Int.mul_pos hgi (by omega)
      rw [hst, if_pos e3, h, up_x]
      exact .inr (by congr 1; omega)
theorem trkIt_at {Z : List Int} {l : List UInt8} {m a g L : Nat} (hL : L = l.length * m) (hs : Sharp l) (hm : 0 < m) (hm8 : m ≤ 8) (ha : a < L) (hg : 1 ≤ g) (hz : ∀ i, score Z l m i 0 = (g : Int) * corr l m a i) {y off : Nat} (hy : y ≤ m) (h : AtD L a y off) :
    ∀ k, AtD L a (y - k) (trkIt Z l m off k)
  | 0 => h
  | k + 1 => by
    have ih := trkIt_at hL hs hm hm8 ha hg hz hy h k
    have := trk_at hL hs hm hm8 ha hg hz (by omega) ih
    rw [show y - (k + 1) = y - k - 1 by omega]
    exact this
end Go.Proofs.Ytmecbiphejjkmaa
