/- Contracts of the functions on pilots that return numbers and tests. -/
import Derived.Test.YtiiiaeemblcniaaBits
namespace Go.Proofs.Ytiiiaeemblcniaa
set_option maxRecDepth 20000
open Go.ChangeShapes Go.WideShapes Go.ChangeAt Go.RowKit

/-- the period of a pilot, or -1 -/
def pilotLen (s : ByteArray) (n : Int) : Int := if pilotOK s.data.toList n then (s.size : Int) * n else -1
theorem pilotLen_yes {s : ByteArray} {n : Int} (h : pilotOK s.data.toList n = true) : pilotLen s n = (s.size : Int) * n := if_pos h
theorem pilotLen_no {s : ByteArray} {n : Int} (h : pilotOK s.data.toList n = false) : pilotLen s n = -1 := if_neg (by simp [h])
end Go.Proofs.Ytiiiaeemblcniaa
