/- Contracts of registers: validity, parity, one step. -/
import Derived.Test.YtiiiaeemblcniaaSums
import Derived.Test.YtiiiaeemblcniaaPlain2
import Derived.Test.YtiiiaeemblcniaaMem
import Derived.Deep.RegionHeld3
import Derived.Deep.QuietTactic
import Derived.BigQuiet
namespace Go.Proofs.Ytiiiaeemblcniaa
set_option maxRecDepth 20000
open Go.ChangeShapes Go.WideShapes Go.ChangeAt Go.RowKit
set_option linter.unusedVariables false
set_option linter.unusedSimpArgs false

theorem pow_facts (n : Nat) (h : n ≤ 8) : ∃ P : Nat, P = 2 ^ n ∧ wrap64 ((2 : Int) ^ n) = (P : Int) ∧ 1 ≤ P ∧ P ≤ 256 := by
  have : n = 0 ∨ n = 1 ∨ n = 2 ∨ n = 3 ∨ n = 4 ∨ n = 5 ∨ n = 6 ∨ n = 7 ∨ n = 8 := by omega
  refine ⟨2 ^ n, rfl, ?_⟩
  rcases this with rfl | rfl | rfl | rfl | rfl | rfl | rfl | rfl | rfl <;> decide +kernel
theorem quietSame {P : Program} {f : FuncId} {args : Array Value} {w : World} {v : Value} (h : Calls P f args w fun e w' => e = .returned v ∧ w = w') : Calls P f args w fun e w' => e = .returned v ∧ w' = w := h.mono fun _ _ ⟨a, b⟩ => ⟨a, b.symm⟩
def pw (z : Int) : Int := ((2 ^ z.toNat : Nat) : Int)
def tapOK (z t : Int) : Bool := inB z 2 8 && inB t 1 (pw z - 1)
def regOK (z t s : Int) : Bool := tapOK z t && inB s 0 (pw z - 1)
theorem two_any (n : Nat) (w : World) (h : n ≤ 8) : Calls Try.prog 79 #[.int .i64 (n : Int)] w fun e w' => e = .returned (.int .i64 ((2 ^ n : Nat) : Int)) ∧ w = w' := by
  obtain ⟨P, hP, h1, h2, h3⟩ := pow_facts n h
  rw [← hP]
  clear hP
  go_enter Try.func79, Try.ntmps79
  go_wp2
  go_ret
  exact ⟨ret_int h1, rfl⟩
theorem tapS_any (z t : Int) (w : World) : Calls Try.prog 92 #[.int .i64 z, .int .i64 t] w fun e w' => e = .returned (.bool (tapOK z t)) ∧ w = w' := by
  have HI := Lib.hid (fun (a b c : Int) (u : World) => l1In_any a b c u)
  by_cases h0 : 2 ≤ z ∧ z ≤ 8
  · obtain ⟨h0, h1⟩ := h0
    obtain ⟨n, rfl⟩ : ∃ n : Nat, z = (n : Int) := ⟨z.toNat, by omega⟩
    obtain ⟨P, hP, p1, p2, p3⟩ := pow_facts n (by omega)
    have hi := inB_yes h0 h1
    have e : tapOK (n : Int) t = inB t 1 ((P : Int) - 1) := by unfold tapOK pw; rw [hi, Int.toNat_natCast, ← hP, Bool.true_and]
    have HT := Lib.hid (fun u : World => hP ▸ two_any n u (by omega))
    rw [e]
    clear hP e
    generalize inB (n : Int) 2 8 = i1 at *
    subst hi
    go_enter Try.func92, Try.ntmps92
    go_wp2_with fail
    refine (HI.out _ _ _ _).mono ?_
    rintro e w' ⟨rfl, rfl⟩
    rw [inB_yes h0 h1]
    go_wp2_with fail
    refine (HT.out _).mono ?_
    rintro e w' ⟨rfl, rfl⟩
    go_wp2_with fail
    refine (HI.out _ _ _ _).mono ?_
    rintro e w' ⟨rfl, rfl⟩
    go_wp2
    go_ret
    exact ⟨rfl, rfl⟩
  · have hi := inB_no h0
    have e : tapOK z t = false := by unfold tapOK; rw [hi]; rfl
    rw [e]
    go_enter Try.func92, Try.ntmps92
    go_wp2_with fail
    refine (HI.out _ _ _ _).mono ?_
    rintro e w' ⟨rfl, rfl⟩
    rw [hi]
    go_wp2
    go_ret
    exact ⟨rfl, rfl⟩
/-- the parity of a number below 256 -/
def par (n : Nat) : Nat := (n % 2 + n / 2 % 2 + n / 4 % 2 + n / 8 % 2 + n / 16 % 2 + n / 32 % 2 + n / 64 % 2 + n / 128 % 2) % 2
theorem par_zero : par 0 = 0 := rfl
theorem par_step (n : Nat) (h : n < 256) : par n = (n % 2 + par (n / 2)) % 2 := by
  unfold par
  have e1 : n / 2 / 2 = n / 4 := by omega
  have e2 : n / 2 / 4 = n / 8 := by omega
  have e3 : n / 2 / 8 = n / 16 := by omega
  have e4 : n / 2 / 16 = n / 32 := by omega
  have e5 : n / 2 / 32 = n / 64 := by omega
  have e6 : n / 2 / 64 = n / 128 := by omega
  have e7 : n / 2 / 128 = 0 := by omega
  rw [e1, e2, e3, e4, e5, e6, e7]
  omega
theorem par_lt (n : Nat) : par n < 2 := Nat.mod_lt _ (by omega)
theorem xor_bit (a b : Nat) (ha : a < 2) (hb : b < 2) : bits .xor .i64 (a : Int) (b : Int) = (((a + b) % 2 : Nat) : Int) := by
  rw [i64_xor_nat _ _ (by omega) (by omega)]
  have h1 : a = 0 ∨ a = 1 := by omega
  have h2 : b = 0 ∨ b = 1 := by omega
  rcases h1 with rfl | rfl <;> rcases h2 with rfl | rfl <;> rfl
theorem and_one (a : Nat) (h : a < 256) : bits .and .i64 (a : Int) 1 = ((a % 2 : Nat) : Int) := by
  rw [show (1 : Int) = ((1 : Nat) : Int) from rfl, i64_and_nat _ _ (by omega) (by omega), Nat.and_one_is_mod]
theorem parS_any (n : Nat) (w : World) (h : n < 256) : Calls Try.prog 80 #[.int .i64 (n : Int)] w fun e w' => e = .returned (.int .i64 (par n)) ∧ w = w' := by
  go_enter Try.func80, Try.ntmps80
  go_wp2
  go_loop [0, 3] (fun x a => ∃ y b : Nat, (y < 256 ∧ b < 2) ∧ x = .int .i64 (y : Int) ∧ a = .int .i64 (b : Int) ∧ (b + par y) % 2 = par n) (fun x _ => (intOf x).toNat)
  case atStart => exact ⟨n, 0, ⟨h, by omega⟩, rfl, rfl, by have := par_lt n; omega⟩
  case round =>
    obtain ⟨y, b, ⟨hy, hb⟩, rfl, rfl, he⟩ := hrel
    by_cases hlt : 0 < y
    · have hx := xor_bit b (y % 2) hb (by omega)
      rw [Int.natCast_emod] at hx
      have HE : Hid (((b + y % 2) % 2 + par (y / 2)) % 2 = par n) := by
        show _ = _
        have := par_step y hy
        omega
      clear he
      generalize par n = pn at *
      go_wp2
      go_round
      case rel => exact ⟨y / 2, (b + y % 2) % 2, ⟨by omega, by omega⟩, by go_num, by go_num, HE.out⟩
      case measure => simp [intOf]; omega
    · obtain rfl : y = 0 := by omega
      have HE : Hid (par n = b) := by show _ = _; rw [par_zero] at he; omega
      clear he
      go_wp2
      go_ret
      exact ⟨ret_int (by rw [HE.out]), rfl⟩
theorem reg_in {z t s : Int} (h : regOK z t s = true) : ∃ n T S P : Nat, z = (n : Int) ∧ t = (T : Int) ∧ s = (S : Int) ∧ P = 2 ^ n ∧ 2 ≤ n ∧ n ≤ 8 ∧ T < P ∧ S < P ∧ P ≤ 256 := by
  unfold regOK tapOK inB pw at h
  simp only [Bool.and_eq_true, decide_eq_true_eq] at h
  obtain ⟨⟨⟨h1, h2⟩, h3, h4⟩, h5, h6⟩ := h
  obtain ⟨n, rfl⟩ : ∃ n : Nat, z = (n : Int) := ⟨z.toNat, by omega⟩
  obtain ⟨T, rfl⟩ : ∃ n : Nat, t = (n : Int) := ⟨t.toNat, by omega⟩
  obtain ⟨S, rfl⟩ : ∃ n : Nat, s = (n : Int) := ⟨s.toNat, by omega⟩
  rw [Int.toNat_natCast] at h4 h6
  obtain ⟨P, hP, _, _, p3⟩ := pow_facts n (by omega)
  rw [← hP] at h4 h6
  exact ⟨n, T, S, P, rfl, rfl, rfl, hP, by omega, by omega, by omega, by omega, p3⟩
theorem tap_in {z t : Int} (h : tapOK z t = true) : ∃ n P : Nat, z = (n : Int) ∧ P = 2 ^ n ∧ 2 ≤ n ∧ n ≤ 8 ∧ P ≤ 256 ∧ 1 ≤ P ∧ wrap64 ((2 : Int) ^ n) = (P : Int) := by
  unfold tapOK inB pw at h
  simp only [Bool.and_eq_true, decide_eq_true_eq] at h
  obtain ⟨⟨h1, h2⟩, h3, h4⟩ := h
  obtain ⟨n, rfl⟩ : ∃ n : Nat, z = (n : Int) := ⟨z.toNat, by omega⟩
  obtain ⟨P, hP, p1, p2, p3⟩ := pow_facts n (by omega)
  exact ⟨n, P, rfl, hP, by omega, by omega, p3, p2, p1⟩
theorem reg_nt {z t s : Int} (h : tapOK z t = false) : regOK z t s = false := by simp [regOK, h]
theorem reg_t {n P : Nat} {t s : Int} (h : tapOK (n : Int) t = true) (hP : P = 2 ^ n) : regOK (n : Int) t s = inB s 0 ((P : Int) - 1) := by unfold regOK pw; rw [h, Int.toNat_natCast, ← hP, Bool.true_and]
set_option maxHeartbeats 1000000 in
theorem regS_any (z t s : Int) (w : World) :
    Calls Try.prog 95 #[.agg #[.int .i64 z, .int .i64 t, .int .i64 s]] w fun e w' => e = .returned (.bool (regOK z t s)) ∧ Below w.heap.size w w' := by
  have HT := Lib.hid (fun u : World => tapS_any z t u)
  cases ht : tapOK z t
  · rw [reg_nt ht]
    rw [ht] at HT
    go_enter Try.func95, Try.ntmps95
    go_wp2_with fail
    go_quiet (first | (go_at_call 92; exact Calls.quiet_of_same (quietSame (HT.out _))))
    go_wp2
    go_ret
    exact ⟨rfl, Below.drewN ((Below.refl _ _).alloc (Nat.le_refl _) _) _⟩
  · obtain ⟨n, P, rfl, hP, h2, h8, p3, p2, p1⟩ := tap_in ht
    rw [reg_t ht hP]
    rw [ht] at HT
    have H2 := Lib.hid (fun u : World => hP ▸ two_any n u (by omega))
    have HI := Lib.hid (fun (u : World) => l1In_any s 0 ((P : Int) - 1) u)
    clear hP ht
    generalize inB s 0 ((P : Int) - 1) = i1 at *
    have y1 : IntKind.i64.wrap ((P : Int) - 1) = (P : Int) - 1 := IntWalk.i64_in _ (by omega)
    go_enter Try.func95, Try.ntmps95
    go_wp2_with fail
    go_quiet (first | (go_at_call 92; exact Calls.quiet_of_same (quietSame (HT.out _))) | (go_at_call 79; exact Calls.quiet_of_same (quietSame (H2.out _))) | (go_at_call 41; exact Calls.quiet_of_same (quietSame (HI.out _))))
    go_wp2
    go_ret
    exact ⟨rfl, Below.drewN ((Below.refl _ _).alloc (Nat.le_refl _) _) _⟩
end Go.Proofs.Ytiiiaeemblcniaa
