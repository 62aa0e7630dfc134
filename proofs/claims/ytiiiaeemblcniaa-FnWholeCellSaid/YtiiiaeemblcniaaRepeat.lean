/- Contracts of RepeatBits and of the reference's l9Many. -/
import Derived.Test.YtiiiaeemblcniaaDiffE
namespace Go.Proofs.Ytiiiaeemblcniaa
set_option maxRecDepth 20000
open Go.ChangeShapes Go.WideShapes Go.ChangeAt Go.RowKit
set_option linter.unusedVariables false
set_option linter.unusedSimpArgs false

/-- a list n times -/
def manyL (l : List UInt8) (n : Nat) : List UInt8 := (List.replicate n l).flatten
theorem manyL_zero (l : List UInt8) : manyL l 0 = [] := rfl
theorem manyL_succ (l : List UInt8) (n : Nat) : manyL l (n + 1) = l ++ manyL l n := by simp [manyL, List.replicate_succ]
theorem manyL_len (l : List UInt8) (n : Nat) : (manyL l n).length = n * l.length := by
  induction n with
  | zero => simp [manyL]
  | succ n ih => rw [manyL_succ, List.length_append, ih, Nat.succ_mul]; omega
theorem manyL_two (l : List UInt8) (n : Nat) : manyL (l ++ l) n = manyL l (2 * n) := by
  induction n with
  | zero => rfl
  | succ n ih =>
    rw [show 2 * (n + 1) = 2 * n + 1 + 1 by omega, manyL_succ, manyL_succ, manyL_succ, ih, List.append_assoc]
theorem manyL_one (c : UInt8) (n : Nat) : manyL [c] n = List.replicate n c := by
  induction n with
  | zero => rfl
  | succ n ih => rw [manyL_succ, ih]; rfl
theorem many_odd {l0 l o : List UInt8} {n0 k : Nat} (h : o ++ manyL l k = manyL l0 n0) (hk : k % 2 = 1) : o ++ l ++ manyL (l ++ l) (k / 2) = manyL l0 n0 := by
  rw [manyL_two, ← h, show k = 2 * (k / 2) + 1 by omega, manyL_succ, List.append_assoc, show (2 * (k / 2) + 1) / 2 = k / 2 by omega]
theorem many_even {l0 l o : List UInt8} {n0 k : Nat} (h : o ++ manyL l k = manyL l0 n0) (hk : k % 2 = 0) : o ++ manyL (l ++ l) (k / 2) = manyL l0 n0 := by
  rw [manyL_two, ← h, show 2 * (k / 2) = k by omega]
theorem many_len {l0 l o : List UInt8} {n0 k M : Nat} (h : o ++ manyL l k = manyL l0 n0) (hM : n0 * l0.length ≤ M) (hk : 1 ≤ k) : o.length + l.length ≤ M ∧ l.length ≤ M := by
  have e : (o ++ manyL l k).length = n0 * l0.length := by rw [h, manyL_len]
  rw [List.length_append, manyL_len] at e
  have : 1 * l.length ≤ k * l.length := Nat.mul_le_mul_right _ hk
  omega
set_option maxHeartbeats 400000 in
theorem many_any (s : ByteArray) (n : Int) (w : World) (hM : n.toNat * s.size ≤ 1000000) (hn : n ≤ 1000000) :
    Calls Try.prog 78 #[.string s, .int .i64 n] w fun e w' => e = .returned (.string (str (manyL s.data.toList n.toNat))) ∧ w = w' := by
  obtain ⟨l0, rfl⟩ : ∃ l, s = str l := ⟨_, (str_of s).symm⟩
  rw [str_size] at hM
  rw [str_list]
  go_enter Try.func78, Try.ntmps78
  go_wp2
  go_loop [0, 1, 5] (fun a i v => ∃ (l o : List UInt8) (m : Int), a = .string (str l) ∧ v = .string (str o) ∧ i = .int .i64 m ∧ m ≤ 1000000 ∧ o ++ manyL l m.toNat = manyL l0 n.toNat) (fun _ i _ => (intOf i).toNat)
  case atStart => exact ⟨l0, [], n, rfl, rfl, rfl, hn, rfl⟩
  case round =>
    obtain ⟨l, o, m, rfl, rfl, rfl, hm, hinv⟩ := hrel
    by_cases hlt : 0 < m
    · obtain ⟨z1, z2⟩ := many_len hinv hM (by omega)
      have z3 : (str l).size ≤ 1000000 := by rw [str_size]; exact z2
      have z4 : (str o).size ≤ 1000000 := by rw [str_size]; omega
      by_cases h2 : m % 2 = 1
      · have HI := Lib.hid (many_odd hinv (by omega))
        have b1 : (m % 2 == 1) = true := by simpa using h2
        clear hinv h2 hM z1 z2
        go_wp2
        go_round
        case rel => exact ⟨l ++ l, o ++ l, m / 2, by rw [str_add], by rw [str_add], rfl, by omega, by rw [← HI.out]; congr 2; omega⟩
        case measure => simp [intOf]; omega
      · have HI := Lib.hid (many_even hinv (by omega))
        have b1 : (m % 2 == 1) = false := by simpa using h2
        clear hinv h2 hM z1 z2
        go_wp2
        go_round
        case rel => exact ⟨l ++ l, o, m / 2, by rw [str_add], rfl, rfl, by omega, by rw [← HI.out]; congr 2; omega⟩
        case measure => simp [intOf]; omega
    · have HI := Lib.hid hinv
      clear hinv hM
      go_wp2
      go_ret
      exact ⟨by rw [← HI.out, show m.toNat = 0 by omega, manyL_zero, List.append_nil]; rfl, rfl⟩
end Go.Proofs.Ytiiiaeemblcniaa
