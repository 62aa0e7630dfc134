/- Contracts of BestOffset. -/
import Derived.Test.YtiiiaeemblcniaaTable
import Derived.Deep.QuietTactic
import Derived.BigQuiet
namespace Go.Proofs.Ytiiiaeemblcniaa
set_option maxRecDepth 20000
open Go.ChangeShapes Go.WideShapes Go.ChangeAt Go.RowKit
set_option linter.unusedVariables false
set_option linter.unusedSimpArgs false

/-- the index of the first one of the greatest among the first k + 1 numbers -/
def bestN (l : List Int) : Nat → Nat
  | 0 => 0
  | k + 1 => if l.getD (bestN l k) 0 < l.getD (k + 1) 0 then k + 1 else bestN l k
theorem bestN_le (l : List Int) (k : Nat) : bestN l k ≤ k := by
  induction k with
  | zero => exact Nat.le_refl _
  | succ k ih => simp only [bestN]; split <;> omega
def bestI (l : List Int) : Int := if l.length = 0 then -1 else (bestN l (l.length - 1) : Int)
/-- the best one before the round k -/
def bestAt (l : List Int) (k : Nat) : Int := if k = 0 then -1 else (bestN l (k - 1) : Int)
theorem bestAt_end (l : List Int) : bestAt l l.length = bestI l := rfl
theorem best_step (l : List Int) (k b : Nat) (hk : 1 ≤ k) (hb : b = bestN l (k - 1)) : bestAt l (k + 1) = if l.getD b 0 < l.getD k 0 then (k : Int) else (b : Int) := by
  obtain ⟨j, rfl⟩ : ∃ j, k = j + 1 := ⟨k - 1, by omega⟩
  rw [Nat.add_sub_cancel] at hb
  show ((bestN l (j + 1) : Nat) : Int) = _
  rw [bestN, ← hb]
  split <;> rfl
end Go.Proofs.Ytiiiaeemblcniaa
