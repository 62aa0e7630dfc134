/- Contracts of the functions that add strings of bits. -/
import Derived.Test.YtholipfekecloaaBits
import Derived.Test.YtholipfekecloaaPlain3
import Derived.StillTailTactics
namespace Go.Proofs.Ytholipfekecloaa
set_option maxRecDepth 20000
open Go.ChangeShapes Go.WideShapes Go.ChangeAt Go.RowKit

theorem info_u8 : (Try.prog.info? 5).map (fun i => (i.zero, i.size, i.bytes)) = some (some (.int .u8 0), 1, 1) := by kernel_rfl

theorem bitOf_any (n : Int) (w : World) : Calls Try.prog 110 #[.int .i64 n] w fun e w' => e = .returned (.int .u8 (bitB n)) ∧ w' = w := by
  by_cases h : n = 0
  · have e : bitB n = 48 := if_pos h
    rw [e]
    have b : (n == 0) = true := by simpa using h
    clear h e
    go_enter Try.func110, Try.ntmps110
    go_wp2
    go_ret
    exact ⟨rfl, rfl⟩
  · have e : bitB n = 49 := if_neg h
    rw [e]
    have b : (n == 0) = false := by simpa using h
    clear h e
    go_enter Try.func110, Try.ntmps110
    go_wp2
    go_ret
    exact ⟨rfl, rfl⟩

end Go.Proofs.Ytholipfekecloaa
