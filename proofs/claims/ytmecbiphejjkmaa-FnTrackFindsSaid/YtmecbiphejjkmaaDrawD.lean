/- Weak contract of the function that draws a pilot and two offsets. -/
import Derived.Test.YtmecbiphejjkmaaDrawQ
namespace Go.Proofs.Ytmecbiphejjkmaa
set_option maxRecDepth 20000
open Go.ChangeShapes Go.WideShapes Go.ChangeAt Go.RowKit
set_option linter.unusedVariables false
set_option linter.unusedSimpArgs false

theorem row_below' {w w' : World} {k : IntKind} {a : Option Addr} {len cap : Nat} {zs : List Int} (h : IsRow k w a len cap zs) (hb : Below w.heap.size w w') : IsRow k w' a len cap zs := by
  rcases h with h | ⟨x, rfl, hlc, hcm, hz, hc, hw⟩
  · exact .inl h
  · exact .inr ⟨x, rfl, hlc, hcm, hz, fun i hi => by rw [hb.cell (by rw [add_block]; exact rd_lt (hc i hi))]; exact hc i hi, hw⟩
end Go.Proofs.Ytmecbiphejjkmaa
