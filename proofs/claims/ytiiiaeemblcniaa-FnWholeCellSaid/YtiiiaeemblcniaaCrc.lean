/- Contracts of check bits and of binary digits. -/
import Derived.Test.YtiiiaeemblcniaaDiffE
namespace Go.Proofs.Ytiiiaeemblcniaa
set_option maxRecDepth 20000
open Go.ChangeShapes Go.WideShapes Go.ChangeAt Go.RowKit
set_option linter.unusedVariables false
set_option linter.unusedSimpArgs false

/-- the binary digits of x, n of them, the highest first -/
def digB (x j : Nat) : UInt8 := if x / 2 ^ j % 2 = 0 then 48 else 49
def binL (x n : Nat) : List UInt8 := (List.range n).map fun i => digB x (n - 1 - i)
theorem binL_len (x n : Nat) : (binL x n).length = n := by simp [binL]
theorem binL_getD (x n j : Nat) (h : j < n) : (binL x n).getD j 0 = digB x (n - 1 - j) := by simp [binL, List.getD_eq_getElem?_getD, h]
theorem digB_bit1 (x j : Nat) : bit1 (digB x j) = true := by unfold digB; split <;> rfl
theorem dig_and (x j : Nat) (hx : x < 65536) : bits .and .i64 ((x : Int) / 2 ^ j) 1 = ((x / 2 ^ j % 2 : Nat) : Int) := by
  have e : (x : Int) / 2 ^ j = ((x / 2 ^ j : Nat) : Int) := by simp
  have h : x / 2 ^ j ≤ x := Nat.div_le_self _ _
  rw [e, show (1 : Int) = ((1 : Nat) : Int) from rfl, i64_and_nat _ _ (by omega) (by omega), Nat.and_one_is_mod]
theorem bitB_dig (x j : Nat) : bitB ((x : Int) / 2 ^ j % 2) = ((digB x j).toNat : Int) := by
  have e : (x : Int) / 2 ^ j % 2 = ((x / 2 ^ j % 2 : Nat) : Int) := by simp
  rw [e]
  unfold bitB digB
  by_cases h : x / 2 ^ j % 2 = 0
  · rw [if_pos h, if_pos (by omega)]; rfl
  · rw [if_neg h, if_neg (by omega)]; rfl
end Go.Proofs.Ytiiiaeemblcniaa
