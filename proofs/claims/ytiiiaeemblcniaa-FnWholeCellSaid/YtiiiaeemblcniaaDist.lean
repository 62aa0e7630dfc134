/- Contracts of offsets and of OffsetDistance. -/
import Derived.Test.YtiiiaeemblcniaaPilot
import Derived.WalkSpells
import Derived.Outline
namespace Go.Proofs.Ytiiiaeemblcniaa
set_option maxRecDepth 20000
open Go.ChangeShapes Go.WideShapes Go.ChangeAt Go.RowKit
set_option linter.unusedVariables false
set_option linter.unusedSimpArgs false

/-- an offset of a pilot -/
def offOK (s : ByteArray) (n x : Int) : Bool := decide (0 ≤ x) && decide (x < pilotLen s n)
theorem off_neg {s : ByteArray} {n x : Int} (h : ¬ 0 ≤ x) : offOK s n x = false := by simp [offOK, h]
theorem off_pos {s : ByteArray} {n x : Int} (h : 0 ≤ x) : offOK s n x = decide (x < pilotLen s n) := by simp [offOK, h]
theorem off_inv {s : ByteArray} {n x : Int} (h : pilotOK s.data.toList n = false) : offOK s n x = false := by
  simp [offOK, pilotLen_no h]; omega
theorem off_in {s : ByteArray} {n x : Int} (h : pilotOK s.data.toList n = true) : offOK s n x = inB x 0 ((s.size : Int) * n - 1) := by
  simp only [offOK, pilotLen_yes h, inB]
  congr 1
  exact decide_eq_decide.2 (by omega)
theorem off_parts {s : ByteArray} {n x : Int} (h : offOK s n x = true) : pilotOK s.data.toList n = true ∧ 0 ≤ x ∧ x < (s.size : Int) * n := by
  cases hp : pilotOK s.data.toList n
  · rw [off_inv hp] at h; cases h
  · simp only [offOK, pilotLen_yes hp, Bool.and_eq_true, decide_eq_true_eq] at h
    exact ⟨rfl, h.1, h.2⟩
theorem plen_bd (s : ByteArray) (n : Int) : -1 ≤ pilotLen s n ∧ pilotLen s n ≤ 2040 := by
  cases hp : pilotOK s.data.toList n
  · rw [pilotLen_no hp]; omega
  · rw [pilotLen_yes hp]; obtain ⟨_, _, _, _, _, h5, h6⟩ := pilot_parts hp; omega
end Go.Proofs.Ytiiiaeemblcniaa
