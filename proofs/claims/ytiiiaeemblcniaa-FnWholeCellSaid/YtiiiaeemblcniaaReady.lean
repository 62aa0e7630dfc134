/- What the walks of laws over signals and pilots share; contracts of ScoreAt. -/
import Derived.Test.YtiiiaeemblcniaaChip
namespace Go.Proofs.Ytiiiaeemblcniaa
set_option maxRecDepth 20000
open Go.ChangeShapes Go.WideShapes Go.ChangeAt Go.RowKit
set_option linter.unusedVariables false
set_option linter.unusedSimpArgs false

theorem block_lt {w : World} {a : Addr} {v : Value} (h : w.cell? a = some v) : a.block < w.heap.size := by
  rcases Nat.lt_or_ge a.block w.heap.size with h1 | h1
  · exact h1
  · simp [World.cell?, Array.getElem?_eq_none h1] at h
/-- a slice of numbers that came in is read -/
theorem isRow_reads {w : World} {a : Option Addr} {len cap : Nat} {z : List Int} (h : IsRow .i64 w a len cap z) : ∃ l : List Int, len = l.length ∧ Reads w w.heap.size a l ∧ len ≤ maxLen := by
  rcases h with ⟨rfl, rfl, rfl, rfl⟩ | ⟨x, rfl, h1, h2, h3, h4, h5⟩
  · exact ⟨[], rfl, fun h => by simp at h, Nat.zero_le _⟩
  · have hl : (z.take len).length = len := by rw [List.length_take]; omega
    refine ⟨z.take len, hl.symm, fun h => ?_, by omega⟩
    have hb : x.block < w.heap.size := by
      have := block_lt (h4 0 (by omega))
      unfold Addr.add at this
      split at this <;> exact this
    refine ⟨x, rfl, hb, fun j hj => ?_⟩
    rw [hl] at hj
    rw [h4 j (by omega)]
    simp [List.getD_eq_getElem?_getD, List.getElem?_take, hj]
theorem lcells {w u : World} {s : ByteArray} {n : Int} {t : TypeId} (h : Below (w.alloc (.cells #[.string s, .int .i64 n] t)).heap.size (w.alloc (.cells #[.string s, .int .i64 n] t)) u) :
    u.cell? ⟨w.heap.size, 0, none⟩ = some (.string s) ∧ u.cell? ⟨w.heap.size, 1, none⟩ = some (.int .i64 n) := by
  have h0 := (bcell h).1 w.heap.size 0 (by simp)
  have h1 := (bcell h).1 w.heap.size 1 (by simp)
  simp at h0 h1
  exact ⟨h0, h1⟩
/-- a number and whether there is one, as two results -/
def intRes (o : Option Int) : Value := match o with
  | some v => .tuple #[.int .i64 v, .bool true]
  | none => .tuple #[.int .i64 0, .bool false]
theorem intRes_form (o : Option Int) : ∃ x b, intRes o = .tuple #[.int .i64 x, .bool b] := by cases o <;> exact ⟨_, _, rfl⟩
/-- an offset of a valid pilot, in numbers -/
theorem off_nat {s : ByteArray} {n x : Int} (h : offOK s n x = true) : ∃ m off : Nat, n = m ∧ x = off ∧ pilotOK s.data.toList (m : Int) = true ∧ off < s.size * m ∧ 1 ≤ m ∧ m ≤ 8 ∧ 1 ≤ s.size ∧ s.size ≤ 255 ∧ s.size * m ≤ 2040 := by
  obtain ⟨hp, h0, h1⟩ := off_parts h
  obtain ⟨m, rfl, a1, a2, a3, a4, a5, a6⟩ := pilot_nat hp
  have e : (s.size : Int) * (m : Int) = ((s.size * m : Nat) : Int) := by simp
  rw [e] at h1
  exact ⟨m, x.toNat, rfl, by omega, hp, by omega, a1, a2, a3, a4, a6⟩
theorem sl_in {w : World} {lo hi : Nat} {v : Value} {l : List Int} (h : Sl w lo hi v l) (hh : hi ≤ w.heap.size) : ∃ A c, v = .slice A l.length c ∧ Reads w w.heap.size A l := by
  obtain ⟨A, c, e, hr, _⟩ := h.reads
  exact ⟨A, c, e, hr.more hh⟩
theorem sl_rd {w : World} {lo hi g n c : Nat} {l : List Int} (h : Sl w lo hi (.slice (some ⟨g, 0, none⟩) n c) l) (hh : hi ≤ w.heap.size) : Reads w w.heap.size (some ⟨g, 0, none⟩) l := by
  obtain ⟨A, c', e, hr, _⟩ := h.reads
  simp only [Value.slice.injEq] at e
  rw [e.1]
  exact hr.more hh
end Go.Proofs.Ytiiiaeemblcniaa
