/- The reader of the drawn arguments: what is kept of it, and weak contracts of the functions that draw by it. -/
import Derived.Test.YtfcnpbcnpielcaaRepeat
import Derived.Test.YtfcnpbcnpielcaaCrc
import Derived.StillTailTactics
import Derived.Deep.QuietTactic
import Derived.BigQuiet
namespace Go.Proofs.Ytfcnpbcnpielcaa
set_option maxRecDepth 20000
open Go.ChangeShapes Go.WideShapes Go.ChangeAt Go.RowKit
set_option linter.unusedVariables false
set_option linter.unusedSimpArgs false

/-- all blocks but g are as they were -/
structure Keeps (g : Nat) (w w' : World) : Prop where
  below : Below g w w'
  other : ∀ b, b ≠ g → b < w.heap.size → w'.heap[b]? = w.heap[b]?
theorem Keeps.refl (g : Nat) (w : World) : Keeps g w w := ⟨Below.refl _ _, fun _ _ _ => rfl⟩
theorem Keeps.trans {g : Nat} {a b c : World} (h : Keeps g a b) (k : Keeps g b c) : Keeps g a c :=
  ⟨h.below.trans k.below, fun i hi hs => (k.other i hi (Nat.lt_of_lt_of_le hs h.below.size)).trans (h.other i hi hs)⟩
theorem Keeps.of_below {g : Nat} {w w' : World} (hg : g ≤ w.heap.size) (h : Below w.heap.size w w') : Keeps g w w' := ⟨h.mono hg, fun b _ hs => h.block b hs⟩
theorem Keeps.drewN {g : Nat} {w w' : World} (h : Keeps g w w') (n : Nat) : Keeps g w (w'.drewN n) := ⟨Below.drewN h.below n, h.other⟩
theorem Keeps.drew {g : Nat} {w w' : World} (h : Keeps g w w') : Keeps g w w'.drew := h.drewN 1
theorem Keeps.size {g : Nat} {w w' : World} (h : Keeps g w w') : w.heap.size ≤ w'.heap.size := h.below.size
theorem cell_block {w w' : World} {p : Addr} (h : w'.heap[p.block]? = w.heap[p.block]?) : w'.cell? p = w.cell? p ∧ w'.frozen? p = w.frozen? p := by
  constructor
  · simp only [World.cell?, h]
  · simp only [World.frozen?, h]
theorem Keeps.cell {g : Nat} {w w' : World} (h : Keeps g w w') {p : Addr} (hp : p.block ≠ g) (hs : p.block < w.heap.size) : w'.cell? p = w.cell? p := (cell_block (h.other _ hp hs)).1

/-- the reader in block g: bytes that lie below B, and a place that is at most lim -/
def Rd (w : World) (B g lim : Nat) : Prop := ∃ (a : Option Addr) (len cap p : Nat) (f : Nat → Nat), B ≤ g ∧ g < w.heap.size ∧ w.cell? ⟨g, 0, none⟩ = some (.slice a len cap) ∧ w.cell? ⟨g, 1, none⟩ = some (.int .i64 (p : Int)) ∧ w.frozen? ⟨g, 1, none⟩ = false ∧ len ≤ 2000 ∧ p ≤ lim ∧
  (∀ j, f j ≤ 255) ∧ (0 < len → ∃ ad, a = some ad ∧ ad.block < B ∧ ∀ j, j < len → w.cell? (ad.add j) = some (.int .u8 (f j : Int)))
theorem Rd.lt {w : World} {B g lim : Nat} (h : Rd w B g lim) : B ≤ g ∧ g < w.heap.size := by obtain ⟨_, _, _, _, _, h1, h2, _⟩ := h; exact ⟨h1, h2⟩
theorem Rd.mono {w : World} {B g lim lim' : Nat} (h : Rd w B g lim) (hl : lim ≤ lim') : Rd w B g lim' := by
  obtain ⟨a, len, cap, p, f, h1, h2, h3, h4, h5, h6, h7, h8⟩ := h
  exact ⟨a, len, cap, p, f, h1, h2, h3, h4, h5, h6, by omega, h8⟩
theorem add_block (a : Addr) (j : Nat) : (a.add j).block = a.block := by unfold Addr.add; split <;> rfl
theorem Rd.below' {w w' : World} {B g lim N : Nat} (h : Rd w B g lim) (hb : Below N w w') (hN : g < N) : Rd w' B g lim := by
  obtain ⟨a, len, cap, p, f, h1, h2, h3, h4, h5, h6, h7, h8, h9⟩ := h
  refine ⟨a, len, cap, p, f, h1, Nat.lt_of_lt_of_le h2 hb.size, ?_, ?_, ?_, h6, h7, h8, fun hl => ?_⟩
  · rw [hb.cell (p := ⟨g, 0, none⟩) hN]; exact h3
  · rw [hb.cell (p := ⟨g, 1, none⟩) hN]; exact h4
  · rw [hb.frozen (p := ⟨g, 1, none⟩) hN]; exact h5
  · obtain ⟨ad, e, hB, hc⟩ := h9 hl
    exact ⟨ad, e, hB, fun j hj => by rw [hb.cell (by rw [add_block]; omega)]; exact hc j hj⟩
theorem Rd.below {w w' : World} {B g lim : Nat} (h : Rd w B g lim) (hb : Below w.heap.size w w') : Rd w' B g lim := h.below' hb h.lt.2
theorem Keeps.step {g : Nat} {w u u' : World} (h : Keeps g w u) (k : Below w.heap.size u u') (hg : g < w.heap.size) : Keeps g w u' := ⟨h.below.trans (k.mono (by omega)), fun b hb hs => (k.block b hs).trans (h.other b hb hs)⟩
theorem Keeps.after {g : Nat} {w u u' : World} (h : Keeps g w u) (k : Below u.heap.size u u') (hg : g < w.heap.size := by omega) : Keeps g w u' := h.step (k.mono h.size) hg
theorem Own.keeps {w w' : World} {B : Nat} {e : TypeId} {g0 g n cap : Nat} {xs : List Value} (h : Own w B e g n cap xs) (hk : Keeps g0 w w') (hne : g ≠ g0) : Own w' B e g n cap xs := by
  have hs := h.lt.2
  obtain ⟨h1, h2⟩ := h
  refine ⟨h1, ?_⟩
  rcases h2 with h2 | ⟨g', c', cur, h', hB, hh, r⟩
  · exact .inl h2
  · have : g' = g := by simp only [Value.slice.injEq, Option.some.injEq, Addr.mk.injEq, and_true, true_and] at h'; omega
    subst this
    exact .inr ⟨g', c', cur, h', hB, (hk.other g' hne hs).trans hh, r⟩
theorem Rd.alloc {w : World} {B g lim : Nat} (h : Rd w B g lim) (o : Obj) : Rd (w.alloc o) B g lim := h.below ((Below.refl _ _).alloc (Nat.le_refl _) _)
theorem Rd.drew {w : World} {B g lim : Nat} (h : Rd w B g lim) : Rd w.drew B g lim := h

end Go.Proofs.Ytfcnpbcnpielcaa
