/- Contracts of RepeatBits and of the reference's l9Many. -/
import Derived.Test.YtfcnpbcnpielcaaDiffE
namespace Go.Proofs.Ytfcnpbcnpielcaa
set_option maxRecDepth 20000
open Go.ChangeShapes Go.WideShapes Go.ChangeAt Go.RowKit
set_option linter.unusedVariables false
set_option linter.unusedSimpArgs false

/-- a list n times -/
def manyL (l : List UInt8) (n : Nat) : List UInt8 := (List.replicate n l).flatten
theorem manyL_zero (l : List UInt8) : manyL l 0 = [] := rfl
theorem manyL_succ (l : List UInt8) (n : Nat) : manyL l (n + 1) = l ++ manyL l n := by simp [manyL, List.replicate_succ]
theorem manyL_len (l : List UInt8) (n : Nat) : (manyL l n).length = n * l.length := by
  induction n with
  | zero => simp [manyL]
  | succ n ih => rw [manyL_succ, List.length_append, ih, Nat.succ_mul]; omega
theorem manyL_two (l : List UInt8) (n : Nat) : manyL (l ++ l) n = manyL l (2 * n) := by
  induction n with
  | zero => rfl
  | succ n ih =>
    rw [show 2 * (n + 1) = 2 * n + 1 + 1 by omega, manyL_succ, manyL_succ, manyL_succ, ih, List.append_assoc]
theorem manyL_one (c : UInt8) (n : Nat) : manyL [c] n = List.replicate n c := by
  induction n with
  | zero => rfl
  | succ n ih => rw [manyL_succ, ih]; rfl
end Go.Proofs.Ytfcnpbcnpielcaa
