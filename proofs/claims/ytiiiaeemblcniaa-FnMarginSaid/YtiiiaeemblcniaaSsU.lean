/- Contract of the laws' helper that receives. -/
import Derived.Test.YtiiiaeemblcniaaRecv
namespace Go.Proofs.Ytiiiaeemblcniaa
set_option maxRecDepth 20000
open Go.ChangeShapes Go.WideShapes Go.ChangeAt Go.RowKit
set_option linter.unusedVariables false
set_option linter.unusedSimpArgs false

theorem ssUser_yes (A : Option Addr) (c : Nat) (z : List Int) (s : ByteArray) (x n : Int) (B : List UInt8) (w : World) (hr : Reads w w.heap.size A z) (hl : z.length ≤ 1048576) (hs : s.size ≤ maxLen) (h : rcvO z s x n = some B) :
    Calls Try.prog 15 #[.slice A z.length c, .string s, .int .i64 x, .int .i64 n] w fun e w' => e = .returned (.string (str B)) ∧ Below w.heap.size w w' := by
  have HI := Lib.hid (rcvI_any A c z s x n w hr hl hs)
  rw [h] at HI
  change Hid (Calls _ _ _ w fun e w' => e = .returned (.tuple #[.string (str B), .bool true]) ∧ _) at HI
  clear hr h
  go_enter Try.func15, Try.ntmps15
  go_wp2_with fail
  refine HI.out.mono ?_
  rintro e w1 ⟨rfl, hb⟩
  go_wp2
  go_ret
  exact ⟨rfl, hb⟩
end Go.Proofs.Ytiiiaeemblcniaa
