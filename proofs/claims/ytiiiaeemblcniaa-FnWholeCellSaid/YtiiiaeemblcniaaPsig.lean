/- Contracts of PilotSignal. -/
import Derived.Test.YtiiiaeemblcniaaTable
namespace Go.Proofs.Ytiiiaeemblcniaa
set_option maxRecDepth 20000
open Go.ChangeShapes Go.WideShapes Go.ChangeAt Go.RowKit
set_option linter.unusedVariables false
set_option linter.unusedSimpArgs false

def psOK (s : ByteArray) (n x k g : Int) : Bool := offOK s n x && inB k 0 3000 && inB g (-1000) 1000
def psL (s : ByteArray) (n x k g : Int) : List Int := if psOK s n x k g then (List.range k.toNat).map fun i => g * pchip s.data.toList n.toNat x.toNat i else []
theorem ps_no {s : ByteArray} {n x k g : Int} (h : psOK s n x k g = false) : psL s n x k g = [] := if_neg (by simp [h])
theorem ps_yes {s : ByteArray} {m off k : Nat} {g : Int} (h : psOK s (m : Int) (off : Int) (k : Int) g = true) : psL s (m : Int) (off : Int) (k : Int) g = (List.range k).map fun i => g * pchip s.data.toList m off i := if_pos h
theorem psL_len (s : ByteArray) (n x k g : Int) : (psL s n x k g).length ≤ 3000 := by
  unfold psL
  split
  · rename_i h
    simp only [psOK, Bool.and_eq_true, inB, decide_eq_true_eq] at h
    simp; omega
  · simp
theorem ps_parts {s : ByteArray} {n x k g : Int} (h : psOK s n x k g = true) : offOK s n x = true ∧ 0 ≤ k ∧ k ≤ 3000 ∧ -1000 ≤ g ∧ g ≤ 1000 := by
  simp only [psOK, Bool.and_eq_true, inB, decide_eq_true_eq] at h
  exact ⟨h.1.1, h.1.2.1, h.1.2.2, h.2.1, h.2.2⟩
theorem ps_na {s : ByteArray} {n x k g : Int} (h : offOK s n x = false) : psOK s n x k g = false := by simp [psOK, h]
theorem ps_nk {s : ByteArray} {n x k g : Int} (h : ¬ (0 ≤ k ∧ k ≤ 3000)) : psOK s n x k g = false := by simp [psOK, inB_no h]
theorem ps_ng {s : ByteArray} {n x k g : Int} (h : ¬ (-1000 ≤ g ∧ g ≤ 1000)) : psOK s n x k g = false := by simp [psOK, inB_no h]
theorem ps_ok {s : ByteArray} {n x k g : Int} (h : offOK s n x = true) (h1 : 0 ≤ k ∧ k ≤ 3000) (h2 : -1000 ≤ g ∧ g ≤ 1000) : psOK s n x k g = true := by simp [psOK, h, inB_yes h1.1 h1.2, inB_yes h2.1 h2.2]
end Go.Proofs.Ytiiiaeemblcniaa
