/- Weak contracts of the functions that draw strings, and of the arguments that they draw. -/
import Derived.Test.YtiiiaeemblcniaaDraw2
namespace Go.Proofs.Ytiiiaeemblcniaa
set_option maxRecDepth 20000
open Go.ChangeShapes Go.WideShapes Go.ChangeAt Go.RowKit
set_option linter.unusedVariables false
set_option linter.unusedSimpArgs false

theorem mod_any (k n : Int) (w : World) (hn : 1 ≤ n) (hn2 : n ≤ 1000000) (h1 : -1000000000 ≤ k) (h2 : k ≤ 1000000000) : Calls Try.prog 90 #[.int .i64 k, .int .i64 n] w fun e w' => e = .returned (.int .i64 (k % n)) ∧ w = w' := by
  have e1 : (k.tmod n + n) % n = k % n := by
    have hp := Int.tmod_lt_of_pos k (show 0 < n by omega)
    have hq : -n < k.tmod n := by
      have := Int.tmod_lt_of_pos (-k) (show 0 < n by omega)
      rw [Int.neg_tmod] at this; omega
    rw [Int.add_emod_right]
    have hd := Int.mul_tdiv_add_tmod k n
    conv => rhs; rw [← hd]
    rw [Int.add_comm, Int.add_mul_emod_self_left]
  have hp := Int.tmod_lt_of_pos k (show 0 < n by omega)
  have hq : -n < k.tmod n := by
    have := Int.tmod_lt_of_pos (-k) (show 0 < n by omega)
    rw [Int.neg_tmod] at this; omega
  have E := Lib.hid e1
  clear e1
  go_enter Try.func90, Try.ntmps90
  go_wp2
  go_ret
  exact ⟨ret_int E.out, rfl⟩
end Go.Proofs.Ytiiiaeemblcniaa
