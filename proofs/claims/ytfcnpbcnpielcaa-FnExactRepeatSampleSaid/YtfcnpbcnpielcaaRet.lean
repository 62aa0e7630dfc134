/- What the walks of laws over signals share (for a seat without pilots). -/
import Derived.Test.YtfcnpbcnpielcaaSig
import Derived.Deep.RegionHeld3
import Derived.Deep.DrawnRows
namespace Go.Proofs.Ytfcnpbcnpielcaa
set_option maxRecDepth 20000
open Go.ChangeShapes Go.WideShapes Go.ChangeAt Go.RowKit
set_option linter.unusedVariables false
set_option linter.unusedSimpArgs false

theorem block_lt {w : World} {a : Addr} {v : Value} (h : w.cell? a = some v) : a.block < w.heap.size := by
  rcases Nat.lt_or_ge a.block w.heap.size with h1 | h1
  · exact h1
  · simp [World.cell?, Array.getElem?_eq_none h1] at h
theorem isRow_reads {w : World} {a : Option Addr} {len cap : Nat} {z : List Int} (h : IsRow .i64 w a len cap z) : ∃ l : List Int, len = l.length ∧ Reads w w.heap.size a l ∧ len ≤ maxLen := by
  rcases h with ⟨rfl, rfl, rfl, rfl⟩ | ⟨x, rfl, h1, h2, h3, h4, h5⟩
  · exact ⟨[], rfl, fun h => by simp at h, Nat.zero_le _⟩
  · have hl : (z.take len).length = len := by rw [List.length_take]; omega
    refine ⟨z.take len, hl.symm, fun h => ?_, by omega⟩
    have hb : x.block < w.heap.size := by
      have := block_lt (h4 0 (by omega))
      unfold Addr.add at this
      split at this <;> exact this
    refine ⟨x, rfl, hb, fun j hj => ?_⟩
    rw [hl] at hj
    rw [h4 j (by omega)]
    simp [List.getD_eq_getElem?_getD, List.getElem?_take, hj]
theorem sl_in {w : World} {lo hi : Nat} {v : Value} {l : List Int} (h : Sl w lo hi v l) (hh : hi ≤ w.heap.size) : ∃ A c, v = .slice A l.length c ∧ Reads w w.heap.size A l := by
  obtain ⟨A, c, e, hr, _⟩ := h.reads
  exact ⟨A, c, e, hr.more hh⟩
theorem sl_rd {w : World} {lo hi g n c : Nat} {l : List Int} (h : Sl w lo hi (.slice (some ⟨g, 0, none⟩) n c) l) (hh : hi ≤ w.heap.size) : Reads w w.heap.size (some ⟨g, 0, none⟩) l := by
  obtain ⟨A, c', e, hr, _⟩ := h.reads
  simp only [Value.slice.injEq] at e
  rw [e.1]
  exact hr.more hh
theorem alloc_size (w : World) (o : Obj) : (w.alloc o).heap.size = w.heap.size + 1 := by simp
/-- a call returned a slice of its own with the numbers l -/
def RetL (l : List Int) (w : World) (e : Ending) (w' : World) : Prop := ∃ v, e = .returned v ∧ Sl w' w.heap.size w'.heap.size v l ∧ Below w.heap.size w w'
theorem RetL.mk {l : List Int} {w w' : World} {v : Value} (h : Sl w' w.heap.size w'.heap.size v l) (hb : Below w.heap.size w w') : RetL l w (.returned v) w' := ⟨v, rfl, h, hb⟩
def RetLB (l : List Int) (b : Bool) (w : World) (e : Ending) (w' : World) : Prop := ∃ v, e = .returned (.tuple #[v, .bool b]) ∧ Sl w' w.heap.size w'.heap.size v l ∧ Below w.heap.size w w'
theorem RetLB.mk {l : List Int} {b : Bool} {w w' : World} {v : Value} (h : Sl w' w.heap.size w'.heap.size v l) (hb : Below w.heap.size w w') : RetLB l b w (.returned (.tuple #[v, .bool b])) w' := ⟨v, rfl, h, hb⟩
/-- a row that the call filled -/
theorem sl_of_row {w' : World} {lo g n : Nat} {f : Nat → Int} (h : w'.rowIs g 3 n (fun j => if j < n then intV (f j) else .int .i64 0)) (hlo : lo ≤ g) (hn : n ≤ 1048576) : Sl w' lo w'.heap.size (.slice (some ⟨g, 0, none⟩) n n) ((List.range n).map f) := by
  have hown := Own.of_row (B := lo) h hlo (by unfold maxLen; omega)
  have e : (List.range n).map (fun j => if j < n then intV (f j) else .int .i64 0) = ((List.range n).map f).map intV := by
    rw [List.map_map]
    apply List.map_congr_left
    intro j hj
    simp only [List.mem_range] at hj
    rw [if_pos hj]; rfl
  rw [e] at hown
  exact Sl.of_own hown h.lt
theorem rowIs_below {w w' : World} {B g n : Nat} {e : TypeId} {f : Nat → Value} (h : w.rowIs g e n f) (hb : Below B w w') (hg : g < B) : w'.rowIs g e n f := h.of_block (hb.block g hg)
end Go.Proofs.Ytfcnpbcnpielcaa
