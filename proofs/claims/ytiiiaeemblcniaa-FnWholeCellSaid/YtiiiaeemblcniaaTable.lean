/- Contracts of ScoreTable and BestOffset. -/
import Derived.Test.YtiiiaeemblcniaaReady
namespace Go.Proofs.Ytiiiaeemblcniaa
set_option maxRecDepth 20000
open Go.ChangeShapes Go.WideShapes Go.ChangeAt Go.RowKit
set_option linter.unusedVariables false
set_option linter.unusedSimpArgs false

theorem alloc_size (w : World) (o : Obj) : (w.alloc o).heap.size = w.heap.size + 1 := by simp
/-- a call returned a slice of its own with the numbers l -/
def RetL (l : List Int) (w : World) (e : Ending) (w' : World) : Prop := ∃ v, e = .returned v ∧ Sl w' w.heap.size w'.heap.size v l ∧ Below w.heap.size w w'
theorem RetL.mk {l : List Int} {w w' : World} {v : Value} (h : Sl w' w.heap.size w'.heap.size v l) (hb : Below w.heap.size w w') : RetL l w (.returned v) w' := ⟨v, rfl, h, hb⟩
def RetLB (l : List Int) (b : Bool) (w : World) (e : Ending) (w' : World) : Prop := ∃ v, e = .returned (.tuple #[v, .bool b]) ∧ Sl w' w.heap.size w'.heap.size v l ∧ Below w.heap.size w w'
theorem RetLB.mk {l : List Int} {b : Bool} {w w' : World} {v : Value} (h : Sl w' w.heap.size w'.heap.size v l) (hb : Below w.heap.size w w') : RetLB l b w (.returned (.tuple #[v, .bool b])) w' := ⟨v, rfl, h, hb⟩
/-- a row that the call filled -/
theorem sl_of_row {w' : World} {lo g n : Nat} {f : Nat → Int} (h : w'.rowIs g 3 n (fun j => if j < n then intV (f j) else .int .i64 0)) (hlo : lo ≤ g) (hn : n ≤ 1048576) : Sl w' lo w'.heap.size (.slice (some ⟨g, 0, none⟩) n n) ((List.range n).map f) := by
  have hown := Own.of_row (B := lo) h hlo (by unfold maxLen; omega)
  have e : (List.range n).map (fun j => if j < n then intV (f j) else .int .i64 0) = ((List.range n).map f).map intV := by
    rw [List.map_map]
    apply List.map_congr_left
    intro j hj
    simp only [List.mem_range] at hj
    rw [if_pos hj]; rfl
  rw [e] at hown
  exact Sl.of_own hown h.lt
theorem rowIs_below {w w' : World} {B g n : Nat} {e : TypeId} {f : Nat → Value} (h : w.rowIs g e n f) (hb : Below B w w') (hg : g < B) : w'.rowIs g e n f := h.of_block (hb.block g hg)
/-- the scores of all offsets -/
def tabL (z : List Int) (l : List UInt8) (m : Nat) : List Int := (List.range (l.length * m)).map fun off => score z l m off 0
def tableL (z : List Int) (s : ByteArray) (n : Int) : List Int := if sigOK z && pilotOK s.data.toList n then tabL z s.data.toList n.toNat else []
theorem tableL_no {z : List Int} {s : ByteArray} {n : Int} (h : (sigOK z && pilotOK s.data.toList n) = false) : tableL z s n = [] := if_neg (by simp [h])
theorem tableL_yes {z : List Int} {s : ByteArray} {m : Nat} (h : (sigOK z && pilotOK s.data.toList (m : Int)) = true) : tableL z s (m : Int) = (List.range (s.size * m)).map fun off => score z s.data.toList m off 0 := by
  unfold tableL; rw [if_pos h, Int.toNat_natCast, tabL, data_length]
theorem tableL_len (z : List Int) (s : ByteArray) (n : Int) : (tableL z s n).length ≤ 2040 := by
  cases h : (sigOK z && pilotOK s.data.toList n)
  · rw [tableL_no h]; simp
  · have h2 := h
    rw [Bool.and_eq_true] at h2
    obtain ⟨m, rfl, _, _, _, _, _, h6⟩ := pilot_nat h2.2
    rw [tableL_yes h]; simpa using h6
end Go.Proofs.Ytiiiaeemblcniaa
