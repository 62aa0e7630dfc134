/- Contracts of the samples of pilots, of the reference's scores, and of PilotSignal. -/
import Derived.Test.YtiiiaeemblcniaaScore
import Derived.Deep.RegionHeld3
import Derived.Deep.DrawnRows
namespace Go.Proofs.Ytiiiaeemblcniaa
set_option maxRecDepth 20000
open Go.ChangeShapes Go.WideShapes Go.ChangeAt Go.RowKit
set_option linter.unusedVariables false
set_option linter.unusedSimpArgs false

theorem pcells {w u : World} {s : ByteArray} {m : Nat} {t : TypeId} (h : Below (w.alloc (.cells #[.string s, .int .i64 (m : Int)] t)).heap.size (w.alloc (.cells #[.string s, .int .i64 (m : Int)] t)) u) :
    u.cell? ⟨w.heap.size, 0, none⟩ = some (.string s) ∧ u.cell? ⟨w.heap.size, 1, none⟩ = some (.int .i64 (m : Int)) := by
  have h0 := (bcell h).1 w.heap.size 0 (by simp)
  have h1 := (bcell h).1 w.heap.size 1 (by simp)
  simp at h0 h1
  exact ⟨h0, h1⟩
theorem rel_of {P : Program} {f : FuncId} {args : Array Value} {W0 u : World} {v : Value} (hu : Below W0.heap.size W0 u) (h : Calls P f args u fun e u' => e = .returned v ∧ Below u.heap.size u u') :
    Calls P f args u fun e u' => e = .returned v ∧ Below W0.heap.size W0 u' := h.mono fun e u' ⟨a, b⟩ => ⟨a, below_next hu b⟩
theorem rel_same {P : Program} {f : FuncId} {args : Array Value} {W0 u : World} {v : Value} (hu : Below W0.heap.size W0 u) (h : Calls P f args u fun e u' => e = .returned v ∧ u = u') :
    Calls P f args u fun e u' => e = .returned v ∧ Below W0.heap.size W0 u' := h.mono fun e u' ⟨a, b⟩ => ⟨a, by subst b; exact hu⟩
theorem reads_up {w u : World} {o : Obj} {A : Option Addr} {z : List Int} (h : Reads w w.heap.size A z) (hu : Below (w.alloc o).heap.size (w.alloc o) u) : Reads u u.heap.size A z :=
  ((h.alloc (Nat.le_refl _) o).below hu (by simp)).more (by have := hu.size; simp at this; omega)
theorem same_turn {P : Program} {f : FuncId} {args : Array Value} {w : World} {v : Value} (h : Calls P f args w fun e w' => e = .returned v ∧ w' = w) : Calls P f args w fun e w' => e = .returned v ∧ w = w' :=
  h.mono fun e w' ⟨a, b⟩ => ⟨a, b.symm⟩
theorem pchip_at {s : ByteArray} {m off k : Nat} (h : plc (s.size * m) off k / m < s.size) : pchip s.data.toList m off k = chip s[plc (s.size * m) off k / m] := by
  rw [← getD_at s _ h]; unfold pchip; rw [data_length]
theorem pchip_two (l : List UInt8) (m off k : Nat) : pchip l m off k = 1 ∨ pchip l m off k = -1 := chip_two _
end Go.Proofs.Ytiiiaeemblcniaa
