/- The reader of the drawn arguments: what is kept of it, and weak contracts of the functions that draw by it. -/
import Derived.Test.YtiiiaeemblcniaaRepeat
import Derived.Test.YtiiiaeemblcniaaCrc
import Derived.StillTailTactics
import Derived.Deep.QuietTactic
import Derived.BigQuiet
namespace Go.Proofs.Ytiiiaeemblcniaa
set_option maxRecDepth 20000
open Go.ChangeShapes Go.WideShapes Go.ChangeAt Go.RowKit
set_option linter.unusedVariables false
set_option linter.unusedSimpArgs false

/-- all blocks but g are as they were -/
structure Keeps (g : Nat) (w w' : World) : Prop where
  below : Below g w w'
  other : ∀ b, b ≠ g → b < w.heap.size → w'.heap[b]? = w.heap[b]?
theorem Keeps.refl (g : Nat) (w : World) : Keeps g w w := ⟨Below.refl _ _, fun _ _ _ => rfl⟩
theorem Keeps.trans {g : Nat} {a b c : World} (h : Keeps g a b) (k : Keeps g b c) : Keeps g a c :=
  ⟨h.below.trans k.below, fun i hi hs => (k.other i hi (Nat.lt_of_lt_of_le hs h.below.size)).trans (h.other i hi hs)⟩
theorem Keeps.of_below {g : Nat} {w w' : World} (hg : g ≤ w.heap.size) (h : Below w.heap.size w w') : Keeps g w w' := ⟨h.mono hg, fun b _ hs => h.block b hs⟩
theorem Keeps.drewN {g : Nat} {w w' : World} (h : Keeps g w w') (n : Nat) : Keeps g w (w'.drewN n) := ⟨Below.drewN h.below n, h.other⟩
theorem Keeps.drew {g : Nat} {w w' : World} (h : Keeps g w w') : Keeps g w w'.drew := h.drewN 1
theorem Keeps.size {g : Nat} {w w' : World} (h : Keeps g w w') : w.heap.size ≤ w'.heap.size := h.below.size
theorem cell_block {w w' : World} {p : Addr} (h : w'.heap[p.block]? = w.heap[p.block]?) : w'.cell? p = w.cell? p ∧ w'.frozen? p = w.frozen? p := by
  constructor
  · simp only [World.cell?, h]
  · simp only [World.frozen?, h]
theorem Keeps.cell {g : Nat} {w w' : World} (h : Keeps g w w') {p : Addr} (hp : p.block ≠ g) (hs : p.block < w.heap.size) : w'.cell? p = w.cell? p := (cell_block (h.other _ hp hs)).1

/-- the reader in block g: bytes that lie below B, and a place that is at most lim -/
def Rd (w : World) (B g lim : Nat) : Prop := ∃ (a : Option Addr) (len cap p : Nat) (f : Nat → Nat), B ≤ g ∧ g < w.heap.size ∧ w.cell? ⟨g, 0, none⟩ = some (.slice a len cap) ∧ w.cell? ⟨g, 1, none⟩ = some (.int .i64 (p : Int)) ∧ w.frozen? ⟨g, 1, none⟩ = false ∧ len ≤ 2000 ∧ p ≤ lim ∧
  (∀ j, f j ≤ 255) ∧ (0 < len → ∃ ad, a = some ad ∧ ad.block < B ∧ ∀ j, j < len → w.cell? (ad.add j) = some (.int .u8 (f j : Int)))
theorem Rd.lt {w : World} {B g lim : Nat} (h : Rd w B g lim) : B ≤ g ∧ g < w.heap.size := by obtain ⟨_, _, _, _, _, h1, h2, _⟩ := h; exact ⟨h1, h2⟩
theorem Rd.mono {w : World} {B g lim lim' : Nat} (h : Rd w B g lim) (hl : lim ≤ lim') : Rd w B g lim' := by
  obtain ⟨a, len, cap, p, f, h1, h2, h3, h4, h5, h6, h7, h8⟩ := h
  exact ⟨a, len, cap, p, f, h1, h2, h3, h4, h5, h6, by omega, h8⟩
theorem add_block (a : Addr) (j : Nat) : (a.add j).block = a.block := by unfold Addr.add; split <;> rfl
theorem Rd.below' {w w' : World} {B g lim N : Nat} (h : Rd w B g lim) (hb : Below N w w') (hN : g < N) : Rd w' B g lim := by
  obtain ⟨a, len, cap, p, f, h1, h2, h3, h4, h5, h6, h7, h8, h9⟩ := h
  refine ⟨a, len, cap, p, f, h1, Nat.lt_of_lt_of_le h2 hb.size, ?_, ?_, ?_, h6, h7, h8, fun hl => ?_⟩
  · rw [hb.cell (p := ⟨g, 0, none⟩) hN]; exact h3
  · rw [hb.cell (p := ⟨g, 1, none⟩) hN]; exact h4
  · rw [hb.frozen (p := ⟨g, 1, none⟩) hN]; exact h5
  · obtain ⟨ad, e, hB, hc⟩ := h9 hl
    exact ⟨ad, e, hB, fun j hj => by rw [hb.cell (by rw [add_block]; omega)]; exact hc j hj⟩
theorem Rd.below {w w' : World} {B g lim : Nat} (h : Rd w B g lim) (hb : Below w.heap.size w w') : Rd w' B g lim := h.below' hb h.lt.2
theorem Keeps.step {g : Nat} {w u u' : World} (h : Keeps g w u) (k : Below w.heap.size u u') (hg : g < w.heap.size) : Keeps g w u' := ⟨h.below.trans (k.mono (by omega)), fun b hb hs => (k.block b hs).trans (h.other b hb hs)⟩
theorem Keeps.after {g : Nat} {w u u' : World} (h : Keeps g w u) (k : Below u.heap.size u u') (hg : g < w.heap.size := by omega) : Keeps g w u' := h.step (k.mono h.size) hg
theorem Own.keeps {w w' : World} {B : Nat} {e : TypeId} {g0 g n cap : Nat} {xs : List Value} (h : Own w B e g n cap xs) (hk : Keeps g0 w w') (hne : g ≠ g0) : Own w' B e g n cap xs := by
  have hs := h.lt.2
  obtain ⟨h1, h2⟩ := h
  refine ⟨h1, ?_⟩
  rcases h2 with h2 | ⟨g', c', cur, h', hB, hh, r⟩
  · exact .inl h2
  · have : g' = g := by simp only [Value.slice.injEq, Option.some.injEq, Addr.mk.injEq, and_true, true_and] at h'; omega
    subst this
    exact .inr ⟨g', c', cur, h', hB, (hk.other g' hne hs).trans hh, r⟩
theorem Rd.alloc {w : World} {B g lim : Nat} (h : Rd w B g lim) (o : Obj) : Rd (w.alloc o) B g lim := h.below ((Below.refl _ _).alloc (Nat.le_refl _) _)
theorem Rd.drew {w : World} {B g lim : Nat} (h : Rd w B g lim) : Rd w.drew B g lim := h

theorem pick_num (a b k l : Nat) (ha : a ≤ 255) (hb : b ≤ 255) (hk : k ≤ 1000000) (hl : 1 ≤ l) : a * 131 + b * 1117 + k * 29 + k / l * 53 < 9223372036854775808 := by
  have : k / l ≤ k := Nat.div_le_self _ _
  omega
theorem xor_lt63 (a b : Nat) (ha : a < 2 ^ 62) (hb : b < 2 ^ 62) : a ^^^ b < 2 ^ 62 := Nat.xor_lt_two_pow ha hb
/-- what is known of a number that was drawn below n -/
def PickOK (n : Int) (k : Nat) : Prop := (1 ≤ n → (k : Int) < n) ∧ (¬ 1 ≤ n → k = 0)
theorem rd_set {w : World} {B g lim : Nat} {a : Option Addr} {len cap p : Nat} {f : Nat → Nat} (h1 : B ≤ g) (h2 : g < w.heap.size) (h3 : w.cell? ⟨g, 0, none⟩ = some (.slice a len cap)) (h4 : w.cell? ⟨g, 1, none⟩ = some (.int .i64 (p : Int))) (h5 : w.frozen? ⟨g, 1, none⟩ = false) (h6 : len ≤ 2000) (h7 : p ≤ lim) (h8 : ∀ j, f j ≤ 255)
    (h9 : 0 < len → ∃ ad, a = some ad ∧ ad.block < B ∧ ∀ j, j < len → w.cell? (ad.add j) = some (.int .u8 (f j : Int))) :
    Rd (w.setCell ⟨g, 1, none⟩ (.int .i64 ((p : Int) + 1))) B g (lim + 1) ∧ Keeps g w (w.setCell ⟨g, 1, none⟩ (.int .i64 ((p : Int) + 1))) := by
  have hb : Below g w (w.setCell ⟨g, 1, none⟩ (.int .i64 ((p : Int) + 1))) := (Below.refl g w).setCell (p := ⟨g, 1, none⟩) (Nat.le_refl g) _
  refine ⟨⟨a, len, cap, p + 1, f, h1, Nat.lt_of_lt_of_le h2 hb.size, ?_, ?_, ?_, h6, by omega, h8, fun hl => ?_⟩, hb, fun b hb hs => ?_⟩
  · exact (World.cell?_setCell_other _ _ _ _ (by simp)).trans h3
  · exact World.cell?_setCell_same _ _ _ h4
  · rw [World.frozen?_setCell]; exact h5
  · obtain ⟨ad, e, hB, hc⟩ := h9 hl
    exact ⟨ad, e, hB, fun j hj => by rw [hb.cell (by rw [add_block]; omega)]; exact hc j hj⟩
  · exact Below.heap_setCell w _ _ b hb
set_option maxHeartbeats 1000000 in
theorem pick_any (B g lim : Nat) (n : Int) (w : World) (hr : Rd w B g lim) (hlim : lim ≤ 1000000) (hn : n ≤ 1000000) (hn0 : -1000000 ≤ n) :
    Calls Try.prog 40 #[.pointer (some ⟨g, 0, none⟩), .int .i64 n] w fun e w' => ∃ k : Nat, e = .returned (.int .i64 (k : Int)) ∧ PickOK n k ∧ Rd w' B g (lim + 1) ∧ Keeps g w w' := by
  obtain ⟨a, len, cap, p, f, h1, h2, h3, h4, h5, h6, h7, h8, h9⟩ := hr
  have R := Lib.hid (rd_set h1 h2 h3 h4 h5 h6 h7 h8 h9)
  by_cases c1 : n < 1
  · clear h9
    go_enter Try.func40, Try.ntmps40
    go_wp2
    go_ret
    exact ⟨0, rfl, ⟨by omega, by omega⟩, R.out⟩
  by_cases c2 : len = 0
  · have b1 : ((len : Int) == 0) = true := by simp [c2]
    clear h9
    go_enter Try.func40, Try.ntmps40
    go_wp2
    go_ret
    exact ⟨0, rfl, ⟨by omega, by omega⟩, R.out⟩
  have b1 : ((len : Int) == 0) = false := by simp [c2]
  obtain ⟨ad, rfl, hB, hc⟩ := h9 (by omega)
  have HC : Hid (∀ j, j < len → (w.setCell ⟨g, 1, none⟩ (.int .i64 ((p : Int) + 1))).cell? (ad.add j) = some (.int .u8 (f j : Int))) := Lib.hid fun j hj => by rw [((Below.refl g w).setCell (p := ⟨g, 1, none⟩) (Nat.le_refl g) _).cell (by rw [add_block]; omega)]; exact hc j hj
  clear h9 hc
  obtain ⟨m, rfl⟩ : ∃ m : Nat, n = (m : Int) := ⟨n.toNat, by omega⟩
  by_cases c3 : p < len
  · have hl := HC.out p c3
    have hf := h8 p
    generalize f p = y at hl hf
    clear h8
    go_enter Try.func40, Try.ntmps40
    go_wp2
    go_ret
    exact ⟨y % m, rfl, ⟨fun _ => by have := Nat.mod_lt y (show 0 < m by omega); omega, by omega⟩, R.out⟩
  · have hm1 := Nat.mod_lt p (show 0 < len by omega)
    have hm2 := Nat.mod_lt (p * 7 + 3) (show 0 < len by omega)
    have hl1 := HC.out _ hm1
    have hl2 := HC.out _ hm2
    have hf1 := h8 (p % len)
    have hf2 := h8 ((p * 7 + 3) % len)
    generalize f (p % len) = y1 at hl1 hf1
    generalize f ((p * 7 + 3) % len) = y2 at hl2 hf2
    have e1 : (p : Int) % (len : Int) = ((p % len : Nat) : Int) := rfl
    have e2 : ((p : Int) * 7 + 3) % (len : Int) = (((p * 7 + 3) % len : Nat) : Int) := rfl
    have g1 : ((p : Int) % (len : Int)).toNat = p % len := by rw [e1, Int.toNat_natCast]
    have g2 : (((p : Int) * 7 + 3) % (len : Int)).toNat = (p * 7 + 3) % len := by rw [e2, Int.toNat_natCast]
    have hk1 : 0 ≤ (p : Int) % (len : Int) ∧ (p : Int) % (len : Int) < len := by rw [e1]; omega
    have hk2 : 0 ≤ ((p : Int) * 7 + 3) % (len : Int) ∧ ((p : Int) * 7 + 3) % (len : Int) < len := by rw [e2]; omega
    obtain ⟨k1a, k1b⟩ := hk1
    obtain ⟨k2a, k2b⟩ := hk2
    have e3 : (p : Int) / (len : Int) = ((p / len : Nat) : Int) := rfl
    have q1 : p / len ≤ p := Nat.div_le_self _ _
    have hk3 : 0 ≤ (p : Int) / (len : Int) ∧ (p : Int) / (len : Int) ≤ p := by rw [e3]; exact ⟨Int.natCast_nonneg _, by exact_mod_cast q1⟩
    obtain ⟨k3a, k3b⟩ := hk3
    obtain ⟨z, hz⟩ : ∃ z : Nat, bits .xor .i64 ((y1 : Int) * 131 + (y2 : Int) * 1117 + (p : Int) * 29 + (p : Int) / (len : Int) * 53) (((y1 : Int) * 131 + (y2 : Int) * 1117 + (p : Int) * 29 + (p : Int) / (len : Int) * 53) / 64) = (z : Int) :=
      ⟨(y1 * 131 + y2 * 1117 + p * 29 + p / len * 53) ^^^ ((y1 * 131 + y2 * 1117 + p * 29 + p / len * 53) / 64), i64_xor_nat _ _ (pick_num y1 y2 p len hf1 hf2 (by omega) (by omega)) (Nat.lt_of_le_of_lt (Nat.div_le_self _ _) (pick_num y1 y2 p len hf1 hf2 (by omega) (by omega)))⟩
    clear e1 e2 e3
    clear h8
    go_enter Try.func40, Try.ntmps40
    go_wp2
    go_quiet (fail)
    go_wp2
    go_ret
    exact ⟨z % m, rfl, ⟨fun _ => by have := Nat.mod_lt z (show 0 < m by omega); omega, by omega⟩, R.out.1, R.out.2.drewN nq⟩
end Go.Proofs.Ytiiiaeemblcniaa
