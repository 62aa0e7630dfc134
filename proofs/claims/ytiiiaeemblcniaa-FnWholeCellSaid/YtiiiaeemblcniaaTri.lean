/- Three numbers in a block: a register that lies in memory. -/
import Derived.Test.YtiiiaeemblcniaaDraw
namespace Go.Proofs.Ytiiiaeemblcniaa
set_option maxRecDepth 20000
open Go.ChangeShapes Go.WideShapes Go.ChangeAt Go.RowKit
set_option linter.unusedVariables false
set_option linter.unusedSimpArgs false

/-- three numbers lie in block b, and may be written -/
def Tri (u : World) (b : Nat) (z t s : Int) : Prop :=
  u.cell? ⟨b, 0, none⟩ = some (.int .i64 z) ∧ u.cell? ⟨b, 1, none⟩ = some (.int .i64 t) ∧ u.cell? ⟨b, 2, none⟩ = some (.int .i64 s) ∧ (∀ i, u.frozen? ⟨b, i, none⟩ = false) ∧ b < u.heap.size
theorem Tri.block {u u' : World} {b : Nat} {z t s : Int} (h : Tri u b z t s) (hb : u'.heap[b]? = u.heap[b]?) (hs : u.heap.size ≤ u'.heap.size) : Tri u' b z t s := by
  obtain ⟨h0, h1, h2, h3, h4⟩ := h
  have c := fun i => cell_block (p := ⟨b, i, none⟩) hb
  exact ⟨(c 0).1.trans h0, (c 1).1.trans h1, (c 2).1.trans h2, fun i => (c i).2.trans (h3 i), by omega⟩
theorem Tri.keeps {u u' : World} {g b : Nat} {z t s : Int} (h : Tri u b z t s) (hk : Keeps g u u') (hne : b ≠ g) : Tri u' b z t s := h.block (hk.other b hne h.2.2.2.2) hk.size
theorem Tri.alloc {u : World} {b : Nat} {z t s : Int} (h : Tri u b z t s) (o : Obj) : Tri (u.alloc o) b z t s := h.block (Below.heap_alloc _ _ _ h.2.2.2.2) (by simp)
theorem Tri.other {u : World} {b : Nat} {z t s : Int} (h : Tri u b z t s) {p : Addr} (hp : p.block ≠ b) (v : Value) : Tri (u.setCell p v) b z t s := by
  obtain ⟨h0, h1, h2, h3, h4⟩ := h
  have hne : ∀ i, p ≠ (⟨b, i, none⟩ : Addr) := fun i e => hp (by rw [e])
  exact ⟨(World.cell?_setCell_other _ _ _ _ (hne 0)).trans h0, (World.cell?_setCell_other _ _ _ _ (hne 1)).trans h1, (World.cell?_setCell_other _ _ _ _ (hne 2)).trans h2, fun i => by rw [World.frozen?_setCell]; exact h3 i, by simpa using h4⟩
theorem Tri.box {u : World} (z t s : Int) (e : TypeId) : Tri (u.alloc (.cells #[.int .i64 z, .int .i64 t, .int .i64 s] e)) u.heap.size z t s := ⟨by simp, by simp, by simp, fun i => by simp, by simp⟩
theorem tri_set (u : World) (b : Nat) (x y z : Value) : Below b u (((u.setCell ⟨b, 0, none⟩ x).setCell ⟨b, 1, none⟩ y).setCell ⟨b, 2, none⟩ z) :=
  (((Below.refl b u).setCell (p := ⟨b, 0, none⟩) (Nat.le_refl b) x).setCell (p := ⟨b, 1, none⟩) (Nat.le_refl b) y).setCell (p := ⟨b, 2, none⟩) (Nat.le_refl b) z
theorem one_set (u : World) {B b : Nat} (h : B ≤ b) (i : Nat) (x : Value) : Below B u (u.setCell ⟨b, i, none⟩ x) := (Below.refl B u).setCell (p := ⟨b, i, none⟩) h x
end Go.Proofs.Ytiiiaeemblcniaa
