/- Weak contracts of the functions that draw pilots and offsets. -/
import Derived.Test.YtiiiaeemblcniaaDraw3
import Derived.Test.YtiiiaeemblcniaaPer
import Derived.Test.YtiiiaeemblcniaaPilot
namespace Go.Proofs.Ytiiiaeemblcniaa
set_option maxRecDepth 20000
open Go.ChangeShapes Go.WideShapes Go.ChangeAt Go.RowKit
set_option linter.unusedVariables false
set_option linter.unusedSimpArgs false

/-- two values lie in block b, and may be written -/
def Two (u : World) (b : Nat) (x y : Value) : Prop :=
  u.cell? ⟨b, 0, none⟩ = some x ∧ u.cell? ⟨b, 1, none⟩ = some y ∧ (∀ i, u.frozen? ⟨b, i, none⟩ = false) ∧ b < u.heap.size
theorem Two.block {u u' : World} {b : Nat} {x y : Value} (h : Two u b x y) (hb : u'.heap[b]? = u.heap[b]?) (hs : u.heap.size ≤ u'.heap.size) : Two u' b x y := by
  obtain ⟨h0, h1, h3, h4⟩ := h
  have c := fun i => cell_block (p := ⟨b, i, none⟩) hb
  exact ⟨(c 0).1.trans h0, (c 1).1.trans h1, fun i => (c i).2.trans (h3 i), by omega⟩
theorem Two.keeps {u u' : World} {g b : Nat} {x y : Value} (h : Two u b x y) (hk : Keeps g u u') (hne : b ≠ g) : Two u' b x y := h.block (hk.other b hne h.2.2.2) hk.size
theorem Two.below {u u' : World} {b : Nat} {x y : Value} (h : Two u b x y) (hk : Below u.heap.size u u') : Two u' b x y := h.block (hk.block b h.2.2.2) hk.size
theorem Two.alloc {u : World} {b : Nat} {x y : Value} (h : Two u b x y) (o : Obj) : Two (u.alloc o) b x y := h.block (Below.heap_alloc _ _ _ h.2.2.2) (by simp)
theorem Two.other {u : World} {b : Nat} {x y : Value} (h : Two u b x y) {p : Addr} (hp : p.block ≠ b) (v : Value) : Two (u.setCell p v) b x y := by
  obtain ⟨h0, h1, h3, h4⟩ := h
  have hne : ∀ i, p ≠ (⟨b, i, none⟩ : Addr) := fun i e => hp (by rw [e])
  exact ⟨(World.cell?_setCell_other _ _ _ _ (hne 0)).trans h0, (World.cell?_setCell_other _ _ _ _ (hne 1)).trans h1, fun i => by rw [World.frozen?_setCell]; exact h3 i, by simpa using h4⟩
theorem Two.set0 {u : World} {b : Nat} {x y : Value} (h : Two u b x y) (v : Value) : Two (u.setCell ⟨b, 0, none⟩ v) b v y := by
  obtain ⟨h0, h1, h3, h4⟩ := h
  exact ⟨World.cell?_setCell_same _ _ _ h0, (World.cell?_setCell_other _ _ _ _ (by simp)).trans h1, fun i => by rw [World.frozen?_setCell]; exact h3 i, by simpa using h4⟩
theorem Two.set1 {u : World} {b : Nat} {x y : Value} (h : Two u b x y) (v : Value) : Two (u.setCell ⟨b, 1, none⟩ v) b x v := by
  obtain ⟨h0, h1, h3, h4⟩ := h
  exact ⟨(World.cell?_setCell_other _ _ _ _ (by simp)).trans h0, World.cell?_setCell_same _ _ _ h1, fun i => by rw [World.frozen?_setCell]; exact h3 i, by simpa using h4⟩
theorem Two.box {u : World} (x y : Value) (e : TypeId) : Two (u.alloc (.cells #[x, y] e)) u.heap.size x y := ⟨by simp, by simp, fun i => by simp, by simp⟩
theorem two_set (u : World) {B b : Nat} (h : B ≤ b) (x y : Value) : Below B u ((u.setCell ⟨b, 0, none⟩ x).setCell ⟨b, 1, none⟩ y) :=
  ((Below.refl B u).setCell (p := ⟨b, 0, none⟩) h x).setCell (p := ⟨b, 1, none⟩) h y
/-- the reader's state on a walk that began at W0 -/
def St (B g lim : Nat) (W0 u : World) : Prop := Rd u B g lim ∧ Keeps g W0 u
theorem St.drew {B g lim : Nat} {W0 u : World} (h : St B g lim W0 u) : St B g lim W0 u.drew := ⟨h.1.drew, h.2.drew⟩
theorem St.lt {B g lim : Nat} {W0 u : World} (h : St B g lim W0 u) (hg : g < W0.heap.size) : g < u.heap.size := Nat.lt_of_lt_of_le hg h.2.size
theorem two_st {B g lim b : Nat} {W0 u : World} {x y : Value} (h : Two W0 b x y) (hne : b ≠ g) (hs : St B g lim W0 u) : u.cell? ⟨b, 0, none⟩ = some x ∧ u.cell? ⟨b, 1, none⟩ = some y := by
  have := h.keeps hs.2 hne
  exact ⟨this.1, this.2.1⟩
theorem pick_st (B g lim : Nat) (n : Int) {W0 : World} (u : World) (hs : St B g lim W0 u) (hlim : lim ≤ 1000000) (hn : n ≤ 1000000) (hn0 : -1000000 ≤ n) :
    Calls Try.prog 40 #[.pointer (some ⟨g, 0, none⟩), .int .i64 n] u fun e u' => ∃ k : Nat, e = .returned (.int .i64 (k : Int)) ∧ PickOK n k ∧ St B g (lim + 1) W0 u' :=
  (pick_any B g lim n u hs.1 hlim hn hn0).mono fun e u' ⟨k, a, b, c, d⟩ => ⟨k, a, b, c, hs.2.trans d⟩
theorem bel_st {P : Program} {f : FuncId} {args : Array Value} {B g lim : Nat} {W0 u : World} {v : Value} (hs : St B g lim W0 u) (hg : g < W0.heap.size) (h : Calls P f args u fun e u' => e = .returned v ∧ Below u.heap.size u u') :
    Calls P f args u fun e u' => e = .returned v ∧ St B g lim W0 u' := h.mono fun e u' ⟨a, b⟩ => ⟨a, hs.1.below b, hs.2.after b hg⟩
theorem same_st {P : Program} {f : FuncId} {args : Array Value} {B g lim : Nat} {W0 u : World} {v : Value} (hs : St B g lim W0 u) (h : Calls P f args u fun e u' => e = .returned v ∧ u = u') :
    Calls P f args u fun e u' => e = .returned v ∧ St B g lim W0 u' := h.mono fun e u' ⟨a, b⟩ => ⟨a, by subst b; exact hs⟩
theorem maxL_some : ∀ n : Fin 3, 1 ≤ (maxL (n + 2)).length := by decide +kernel
theorem outB_bit (s : Nat) : bit (outB s) := by unfold outB; split; exact .inl rfl; exact .inr rfl
theorem run_seq {n T k : Nat} (h1 : 1 ≤ k) (h2 : k ≤ 255) : seqOK (runL n T 1 k) = true := by
  unfold seqOK
  rw [run_bits n T 1 k (by omega), runL_len, decide_eq_true h1, decide_eq_true h2]; rfl
theorem seq_mk {N : Nat} {l : List UInt8} (h : BitsN N l) (h1 : 1 ≤ l.length) (h2 : N ≤ 255) : seqOK l = true := by
  have h3 := h.1
  unfold seqOK
  rw [bitsOK_mk (by omega) (fun c hc => by rcases h.2 c hc with h | h <;> rw [h] <;> rfl), decide_eq_true h1, decide_eq_true (by omega)]; rfl
theorem pilot_mk {l : List UInt8} {m : Int} (h : seqOK l = true) (h1 : 1 ≤ m) (h8 : m ≤ 8) : pilotOK l m = true := by unfold pilotOK; rw [h, inB_yes h1 h8]; rfl
end Go.Proofs.Ytiiiaeemblcniaa
