/- Contracts of a register's run, and of ScrambleBits. -/
import Derived.Test.YtiiiaeemblcniaaStepR
namespace Go.Proofs.Ytiiiaeemblcniaa
set_option maxRecDepth 20000
open Go.ChangeShapes Go.WideShapes Go.ChangeAt Go.RowKit
set_option linter.unusedVariables false
set_option linter.unusedSimpArgs false

def stAt (n T S : Nat) : Nat → Nat
  | 0 => S
  | j + 1 => stepR n T (stAt n T S j)
theorem stAt_lt {n T S P : Nat} (hP : P = 2 ^ n) (hn : 2 ≤ n) (hS : S < P) (j : Nat) : stAt n T S j < P := by
  induction j with
  | zero => exact hS
  | succ j ih => exact step_lt hP hn ih
def outB (s : Nat) : UInt8 := if s % 2 = 0 then 48 else 49
def runL (n T S k : Nat) : List UInt8 := (List.range k).map fun j => outB (stAt n T S j)
theorem runL_len (n T S k : Nat) : (runL n T S k).length = k := by simp [runL]
theorem runL_getD (n T S k j : Nat) (h : j < k) : (runL n T S k).getD j 0 = outB (stAt n T S j) := by simp [runL, List.getD_eq_getElem?_getD, h]
theorem outB_add (s : Nat) : ((outB s).toNat : Int) = 48 + (s : Int) % 2 := by
  unfold outB
  by_cases h : s % 2 = 0
  · rw [if_pos h]; show (48 : Int) = _; omega
  · rw [if_neg h]; show (49 : Int) = _; omega
theorem outB_bitB (s : Nat) : bitB ((s : Int) % 2) = ((outB s).toNat : Int) := by
  unfold bitB outB
  by_cases h : s % 2 = 0
  · rw [if_pos h, if_pos (by omega)]; rfl
  · rw [if_neg h, if_neg (by omega)]; rfl
/-- a register lies in block b -/
def RegAt (u : World) (b n T S : Nat) : Prop :=
  u.cell? ⟨b, 0, none⟩ = some (.int .i64 (n : Int)) ∧ u.cell? ⟨b, 1, none⟩ = some (.int .i64 (T : Int)) ∧ u.cell? ⟨b, 2, none⟩ = some (.int .i64 (S : Int)) ∧ (∀ i, u.frozen? ⟨b, i, none⟩ = false) ∧ b < u.heap.size
theorem RegAt.below {u u' : World} {b n T S : Nat} (h : RegAt u b n T S) (hb : Below u.heap.size u u') : RegAt u' b n T S := by
  obtain ⟨h0, h1, h2, h3, h4⟩ := h
  obtain ⟨c, f⟩ := bcell hb
  exact ⟨(c b 0 h4).trans h0, (c b 1 h4).trans h1, (c b 2 h4).trans h2, fun i => (f b i h4).trans (h3 i), Nat.lt_of_lt_of_le h4 hb.size⟩
theorem RegAt.other {u : World} {b n T S : Nat} (h : RegAt u b n T S) {p : Addr} (hp : p.block ≠ b) (v : Value) : RegAt (u.setCell p v) b n T S := by
  obtain ⟨h0, h1, h2, h3, h4⟩ := h
  have hne : ∀ i, p ≠ (⟨b, i, none⟩ : Addr) := fun i e => hp (by rw [e])
  exact ⟨(World.cell?_setCell_other _ _ _ _ (hne 0)).trans h0, (World.cell?_setCell_other _ _ _ _ (hne 1)).trans h1, (World.cell?_setCell_other _ _ _ _ (hne 2)).trans h2, fun i => by rw [World.frozen?_setCell]; exact h3 i, by simpa using h4⟩
theorem RegAt.set {u : World} {b n T S : Nat} (h : RegAt u b n T S) (S' : Nat) {v : Value} (hv : v = .int .i64 (S' : Int)) : RegAt (u.setCell ⟨b, 2, none⟩ v) b n T S' := by
  subst hv
  obtain ⟨h0, h1, h2, h3, h4⟩ := h
  exact ⟨(World.cell?_setCell_other _ _ _ _ (by simp)).trans h0, (World.cell?_setCell_other _ _ _ _ (by simp)).trans h1, World.cell?_setCell_same _ _ _ h2, fun i => by rw [World.frozen?_setCell]; exact h3 i, by simpa using h4⟩
theorem RegAt.set0 {u : World} {b n T S : Nat} (h : RegAt u b n T S) : RegAt (u.setCell ⟨b, 0, none⟩ (.int .i64 (n : Int))) b n T S := by
  obtain ⟨h0, h1, h2, h3, h4⟩ := h
  exact ⟨World.cell?_setCell_same _ _ _ h0, (World.cell?_setCell_other _ _ _ _ (by simp)).trans h1, (World.cell?_setCell_other _ _ _ _ (by simp)).trans h2, fun i => by rw [World.frozen?_setCell]; exact h3 i, by simpa using h4⟩
theorem RegAt.set1 {u : World} {b n T S : Nat} (h : RegAt u b n T S) : RegAt (u.setCell ⟨b, 1, none⟩ (.int .i64 (T : Int))) b n T S := by
  obtain ⟨h0, h1, h2, h3, h4⟩ := h
  exact ⟨(World.cell?_setCell_other _ _ _ _ (by simp)).trans h0, World.cell?_setCell_same _ _ _ h1, (World.cell?_setCell_other _ _ _ _ (by simp)).trans h2, fun i => by rw [World.frozen?_setCell]; exact h3 i, by simpa using h4⟩
theorem RegAt.alloc {u : World} {b n T S : Nat} (h : RegAt u b n T S) (o : Obj) : RegAt (u.alloc o) b n T S := h.below ((Below.refl _ _).alloc (Nat.le_refl _) _)
theorem RegAt.box {u : World} (n T S : Nat) (t : TypeId) : RegAt (u.alloc (.cells #[.int .i64 (n : Int), .int .i64 (T : Int), .int .i64 (S : Int)] t)) u.heap.size n T S := by
  refine ⟨by simp, by simp, by simp, fun i => by simp, by simp⟩
theorem row_below {u u' : World} {b : Nat} {e : TypeId} {n : Nat} {f : Nat → Value} (h : u.rowIs b e n f) (hb : Below u.heap.size u u') : u'.rowIs b e n f := h.of_block (hb.block b h.lt)
set_option maxHeartbeats 1000000 in
theorem runS_any (n T S P c : Nat) (w : World) (hP : P = 2 ^ n) (hn : 2 ≤ n) (h8 : n ≤ 8) (hT : T < P) (hS : S < P) (hc6 : c ≤ 600) :
    Calls Try.prog 88 #[.agg #[.int .i64 (n : Int), .int .i64 (T : Int), .int .i64 (S : Int)], .int .i64 (c : Int)] w fun e w' => e = .returned (.string (str (runL n T S c))) ∧ Below w.heap.size w w' := by
  have hmk := fun u => run_make_row' (P := Try.prog) 22 5 (.int .u8 0) 1 Try.underlying22 info_u8 rfl .i64 .i64 c (by omega) (by omega) u
  have HS := Lib.hid (fun (k : Nat) (u : World) => stepS_any n T (stAt n T S k) P u hP hn h8 hT (stAt_lt hP hn hS k))
  have HLT := Lib.hid (fun k : Nat => Nat.lt_of_lt_of_le (stAt_lt (T := T) hP hn hS k) (pow_le hP h8))
  clear hP hT hS
  go_enter Try.func88, Try.ntmps88
  go_wp2
  go_loopw [6] (fun i wr => ∃ k : Nat, k ≤ c ∧ i = .int .i64 k ∧ RegAt wr w.heap.size n T (stAt n T S k) ∧ wr.rowIs (w.heap.size + 1) 5 c (fun j => if j < k then .int .u8 (outB (stAt n T S j)).toNat else .int .u8 0) ∧ Below w.heap.size w wr) (fun i _ => c - (intOf i).toNat)
  case atStart =>
    refine ⟨0, Nat.zero_le _, rfl, (RegAt.box n T S _).alloc _, ?_, ((Below.refl _ _).alloc (Nat.le_refl _) _).alloc (by simp) _⟩
    rw [show w.heap.size + 1 = (w.alloc (.cells #[.int .i64 (n : Int), .int .i64 (T : Int), .int .i64 (S : Int)] 98)).heap.size by simp]
    exact (World.rowIs_made _ _ _ _).congr (fun _ _ => rfl)
  case round =>
    obtain ⟨k, hk, rfl, hreg, hrow, hbl⟩ := hrel
    clear hmk
    by_cases hlt : k < c
    · have hc := hrow.cell hlt
      have hf := hrow.frozen k
      have hs := HLT.out k
      have HO := Lib.hid (outB_add (stAt n T S k))
      have HR := Lib.hid hreg
      have HW := Lib.hid hrow
      obtain ⟨r0, r1, r2, r3, r4⟩ := hreg
      have HC := Lib.hid (HS.out k)
      have HN : Hid (stepR n T (stAt n T S k) = stAt n T S (k + 1)) := rfl
      clear hrow
      go_wp2_with fail
      refine (HC.out _).mono ?_
      rintro e w1 ⟨rfl, k1⟩
      have HR1 := Lib.hid ((HR.out.other (p := ⟨w.heap.size + 1, k, none⟩) (by simp) _).below k1)
      have HW1 := Lib.hid (row_below (row_next HW.out (v := .int .u8 (48 + ((stAt n T S k : Nat) : Int) % 2)) (by rw [HO.out])) k1)
      have HB1 := Lib.hid ((hbl.setCell (Nat.le_succ _) _).trans (k1.mono (by simpa using hbl.size)))
      clear k1 r0 r1 r2 r3 r4 hc hf hbl
      obtain ⟨r0, r1, r2, r3, r4⟩ := HR1.out
      go_wp2
      go_roundw
      case rel => exact ⟨k + 1, by omega, by go_num, (HR1.out.set0.set1.set _ (by rw [← HN.out])), ((HW1.out.setOther (by simp) _).setOther (by simp) _).setOther (by simp) _, ((HB1.out.setCell (Nat.le_refl _) _).setCell (Nat.le_refl _) _).setCell (Nat.le_refl _) _⟩
      case measure => simp [intOf]; omega
    · obtain rfl : k = c := by omega
      have hconv := conv_row (P := Try.prog) (src := 22) (dst := 9) (runL n T S k) (n := k) (runL_len _ _ _ _) (Nat.le_refl _) hrow (fun j hj => by rw [if_pos hj, runL_getD _ _ _ _ _ hj]) Try.underlying22 Try.underlying5 Try.underlying9
      clear hrow hreg
      go_wp2
      go_ret
      exact ⟨rfl, hbl⟩
theorem run_bits (n T S k : Nat) (h : k ≤ 600) : bitsOK (runL n T S k) = true := bitsOK_mk (by rw [runL_len]; exact h) (fun c hc => by
  simp only [runL, List.mem_map] at hc
  obtain ⟨j, _, rfl⟩ := hc
  unfold outB
  split <;> rfl)
end Go.Proofs.Ytiiiaeemblcniaa
