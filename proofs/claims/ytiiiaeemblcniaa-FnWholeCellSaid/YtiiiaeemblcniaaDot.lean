/- Correlations of a signal with a code, part by part: plain facts. -/
import Derived.Test.YtiiiaeemblcniaaScore
import Derived.Test.YtiiiaeemblcniaaTable
namespace Go.Proofs.Ytiiiaeemblcniaa
set_option maxRecDepth 20000
open Go.ChangeShapes Go.WideShapes Go.ChangeAt Go.RowKit
set_option linter.unusedVariables false
set_option linter.unusedSimpArgs false

/-- the sum of the first k products of a code and a signal from a place on -/
def dotT (z : List Int) (l : List UInt8) (fr : Nat) : Nat → Int
  | 0 => 0
  | k + 1 => dotT z l fr k + z.getD (fr + k) 0 * chip (l.getD k 0)
def dot (z : List Int) (l : List UInt8) (fr : Nat) : Int := dotT z l fr l.length
theorem dotT_le {z : List Int} (hz : sigOK z = true) (l : List UInt8) (fr k : Nat) : -(1000000 * (k : Int)) ≤ dotT z l fr k ∧ dotT z l fr k ≤ 1000000 * (k : Int) := by
  induction k with
  | zero => simp [dotT]
  | succ k ih =>
    have h := chip_mul (l.getD k 0) (sig_at hz (fr + k))
    simp only [dotT]
    omega
theorem dot_le {z : List Int} (hz : sigOK z = true) {l : List UInt8} (fr : Nat) (hl : l.length ≤ 255) : -255000000 ≤ dot z l fr ∧ dot z l fr ≤ 255000000 := by
  have := dotT_le hz l fr l.length
  unfold dot
  omega
theorem dotT_end {z : List Int} {l : List UInt8} {fr k : Nat} (hz : z.length ≤ fr + k) : ∀ d, dotT z l fr (k + d) = dotT z l fr k
  | 0 => rfl
  | d + 1 => by
    rw [← Nat.add_assoc, dotT, dotT_end hz d, List.getD_eq_getElem?_getD, List.getElem?_eq_none (by omega)]
    simp
theorem dot_exit {z : List Int} {l : List UInt8} {fr k : Nat} (hk : k ≤ l.length) (h : ¬ k < l.length ∨ ¬ fr + k < z.length) : dot z l fr = dotT z l fr k := by
  unfold dot
  rcases h with h | h
  · rw [show l.length = k by omega]
  · rw [show l.length = k + (l.length - k) by omega, dotT_end (by omega)]
theorem dotT_drop (z : List Int) (l : List UInt8) (d fr : Nat) : ∀ k, dotT (z.drop d) l fr k = dotT z l (d + fr) k
  | 0 => rfl
  | k + 1 => by
    rw [dotT, dotT, dotT_drop z l d fr k]
    congr 2
    simp [List.getD_eq_getElem?_getD, Nat.add_assoc]
theorem dot_drop (z : List Int) (l : List UInt8) (d fr : Nat) : dot (z.drop d) l fr = dot z l (d + fr) := dotT_drop _ _ _ _ _
/-- the correlations of one bit after the other -/
def dots (z : List Int) (l : List UInt8) (fr n : Nat) : List Int := (List.range n).map fun i => dot z l (fr + i * l.length)
theorem dots_len (z : List Int) (l : List UInt8) (fr n : Nat) : (dots z l fr n).length = n := by simp [dots]
theorem dots_at (z : List Int) (l : List UInt8) (fr n : Nat) {i : Nat} (h : i < n) : (dots z l fr n).getD i 0 = dot z l (fr + i * l.length) := by simp [dots, List.getD_eq_getElem?_getD, h]
/-- the bit that the sign of a number tells -/
def signB (n : Int) : UInt8 := if n < 0 then 49 else 48
def signs (l : List Int) : List UInt8 := l.map signB
end Go.Proofs.Ytiiiaeemblcniaa
