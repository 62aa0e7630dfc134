/- Contracts of a register's step and run, and of ScrambleBits. -/
import Derived.Test.YtiiiaeemblcniaaReg
import Derived.Test.YtiiiaeemblcniaaDiffE
import Derived.StillTailTactics
namespace Go.Proofs.Ytiiiaeemblcniaa
set_option maxRecDepth 20000
open Go.ChangeShapes Go.WideShapes Go.ChangeAt Go.RowKit
set_option linter.unusedVariables false
set_option linter.unusedSimpArgs false

/-- one step of a register -/
def stepR (n T S : Nat) : Nat := S / 2 + par (S &&& T) * 2 ^ (n - 1)
theorem step_lt {n T S P : Nat} (hP : P = 2 ^ n) (hn : 2 ≤ n) (hS : S < P) : stepR n T S < P := by
  have h1 := par_lt (S &&& T)
  obtain ⟨m, rfl⟩ : ∃ m, n = m + 1 := ⟨n - 1, by omega⟩
  unfold stepR
  rw [Nat.add_sub_cancel]
  rw [Nat.pow_succ] at hP
  have h2 : par (S &&& T) * 2 ^ m ≤ 1 * 2 ^ m := Nat.mul_le_mul_right _ (by omega)
  omega
theorem pow_le {n P : Nat} (hP : P = 2 ^ n) (h8 : n ≤ 8) : P ≤ 256 := by
  obtain ⟨P', h1, _, _, h2⟩ := pow_facts n h8
  rw [hP, ← h1]
  exact h2
/-- the facts of one step -/
theorem step_facts {n T S P : Nat} (hP : P = 2 ^ n) (hn : 2 ≤ n) (h8 : n ≤ 8) (hT : T < P) (hS : S < P) :
    ∃ m A p q : Nat, n = m + 1 ∧ A < 256 ∧ p = par A ∧ p < 2 ∧ q = p * 2 ^ m ∧ q ≤ 256 ∧ stepR n T S = S / 2 + q ∧ bits .and .i64 (S : Int) (T : Int) = (A : Int) ∧ wrap64 ((p : Int) * (2 : Int) ^ m) = (q : Int) ∧
      bits .or .i64 ((S : Int) / 2) (q : Int) = (((S / 2 + q : Nat)) : Int) ∧ m ≤ 7 := by
  obtain ⟨m, rfl⟩ : ∃ m, n = m + 1 := ⟨n - 1, by omega⟩
  have p3 := pow_le hP h8
  obtain ⟨Q, hQ, e4, q2, q3⟩ := pow_facts m (by omega)
  have hA : S &&& T < 256 := Nat.lt_of_le_of_lt Nat.and_le_left (by omega)
  have hp := par_lt (S &&& T)
  have hPQ : P = Q * 2 := by rw [hP, hQ, Nat.pow_succ]
  refine ⟨m, S &&& T, par (S &&& T), par (S &&& T) * 2 ^ m, rfl, hA, rfl, hp, rfl, ?_, ?_, ?_, ?_, ?_, by omega⟩
  · have : par (S &&& T) * 2 ^ m ≤ 1 * 2 ^ m := Nat.mul_le_mul_right _ (by omega)
    omega
  · unfold stepR; rw [Nat.add_sub_cancel]
  · exact i64_and_nat _ _ (by omega) (by omega)
  · rw [← hQ]
    have h01 : par (S &&& T) = 0 ∨ par (S &&& T) = 1 := by omega
    rcases h01 with h | h <;> rw [h]
    · simp; decide +kernel
    · simp [e4]
  · rw [← hQ]
    have e : (S : Int) / 2 = ((S / 2 : Nat) : Int) := by omega
    have h01 : par (S &&& T) = 0 ∨ par (S &&& T) = 1 := by omega
    have hq : par (S &&& T) * Q ≤ 256 := by rcases h01 with h | h <;> rw [h] <;> omega
    rw [e, i64_or_nat _ _ (by omega) (by omega)]
    congr 1
    have := Nat.two_pow_add_eq_or_of_lt (i := m) (b := S / 2) (by rw [← hQ]; omega) (par (S &&& T))
    rw [← hQ, Nat.mul_comm Q] at this
    rw [Nat.or_comm, ← this, Nat.add_comm]
set_option maxHeartbeats 1000000 in
theorem stepS_any (n T S P : Nat) (w : World) (hP : P = 2 ^ n) (hn : 2 ≤ n) (h8 : n ≤ 8) (hT : T < P) (hS : S < P) :
    Calls Try.prog 91 #[.agg #[.int .i64 (n : Int), .int .i64 (T : Int), .int .i64 (S : Int)]] w fun e w' => e = .returned (.agg #[.int .i64 (n : Int), .int .i64 (T : Int), .int .i64 (stepR n T S)]) ∧ Below w.heap.size w w' := by
  obtain ⟨m, A, p, q, e0, hA, ep, hp, eq, hq, es, ea, ew, eo, hm⟩ := step_facts hP hn h8 hT hS
  have HP := Lib.hid (fun u : World => quietSame (ep ▸ parS_any A u hA))
  obtain ⟨Q, hQ, e4, q2, q3⟩ := pow_facts m (by omega)
  have H2 := Lib.hid (fun u : World => quietSame (hQ ▸ two_any m u (by omega)))
  have em : (p : Int) * (Q : Int) = (q : Int) := by rw [eq, ← hQ, Int.natCast_mul]
  have hS2 : S < 256 := Nat.lt_of_lt_of_le hS (pow_le hP h8)
  rw [es]
  subst e0
  clear es ep eq hP hT hS hQ
  have y1 : IntKind.i64.wrap (((m + 1 : Nat) : Int) - 1) = (m : Int) := by rw [show ((m + 1 : Nat) : Int) - 1 = (m : Int) by omega]; exact IntWalk.i64_in _ (by omega)
  have y2 : IntKind.i64.wrap ((m : Int) + 1 - 1) = (m : Int) := by rw [show (m : Int) + 1 - 1 = (m : Int) by omega]; exact IntWalk.i64_in _ (by omega)
  have y5 : IntKind.i64.wrap (m : Int) = (m : Int) := IntWalk.i64_in _ (by omega)
  have y6 : IntKind.i64.wrap ((S : Int) / 2) = (S : Int) / 2 := IntWalk.i64_in _ (by omega)
  have y3 : IntKind.i64.wrap (q : Int) = (q : Int) := IntWalk.i64_in _ (by omega)
  have y4 : IntKind.i64.wrap ((S : Int) / 2 + (q : Int)) = (S : Int) / 2 + (q : Int) := IntWalk.i64_in _ (by omega)
  go_enter Try.func91, Try.ntmps91
  go_wp2_with fail
  obtain ⟨W, hW⟩ : ∃ W, W = (w.alloc (.cells #[.int .i64 ((m : Int) + 1), .int .i64 (T : Int), .int .i64 (S : Int)] 98)).alloc (.cells #[.int .i64 0, .int .i64 0, .int .i64 0] 98) := ⟨_, rfl⟩
  have c0 : W.cell? ⟨w.heap.size, 0, none⟩ = some (.int .i64 ((m : Int) + 1)) := by rw [hW]; simp
  have c1 : W.cell? ⟨w.heap.size, 1, none⟩ = some (.int .i64 (T : Int)) := by rw [hW]; simp
  have c2 : W.cell? ⟨w.heap.size, 2, none⟩ = some (.int .i64 (S : Int)) := by rw [hW]; simp
  have c3 : W.cell? ⟨w.heap.size + 1, 0, none⟩ = some (.int .i64 0) := by rw [hW]; simp
  have c4 : W.cell? ⟨w.heap.size + 1, 1, none⟩ = some (.int .i64 0) := by rw [hW]; simp
  have c5 : W.cell? ⟨w.heap.size + 1, 2, none⟩ = some (.int .i64 0) := by rw [hW]; simp
  have f0 : ∀ i, W.frozen? ⟨w.heap.size, i, none⟩ = false := fun i => by rw [hW]; simp
  have f1 : ∀ i, W.frozen? ⟨w.heap.size + 1, i, none⟩ = false := fun i => by rw [hW]; simp
  have hbW : Below w.heap.size w W := by rw [hW]; exact ((Below.refl _ _).alloc (Nat.le_refl _) _).alloc (by simp) _
  rw [← hW]
  clear hW
  go_still_tail 16, (by kernel_rfl)
  still_call (HP.out _)
  repeat still_step
  still_call (H2.out _)
  repeat still_step
  refine wpStill_nil ?_
  change wpList _ _ _ _ _ W.drew
  go_wp2
  exact bodyPost_ret (v := .agg #[.int .i64 ((m + 1 : Nat) : Int), .int .i64 (T : Int), .int .i64 (((S / 2 + q : Nat)) : Int)]) (by simp [results, Try.results91, go_sem, c3, c4, c5]) rfl ⟨rfl, ((((hbW.setCell (Nat.le_refl _) _).setCell (Nat.le_succ _) _).setCell (Nat.le_succ _) _).setCell (Nat.le_succ _) _).drew⟩
end Go.Proofs.Ytiiiaeemblcniaa
