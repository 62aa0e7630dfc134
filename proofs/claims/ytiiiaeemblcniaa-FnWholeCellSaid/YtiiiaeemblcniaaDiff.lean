/- Contracts of the functions on changes of bits. -/
import Derived.Test.YtiiiaeemblcniaaSums
import Derived.WalkSpells
import Derived.IntWalk
namespace Go.Proofs.Ytiiiaeemblcniaa
set_option maxRecDepth 20000
open Go.ChangeShapes Go.WideShapes Go.ChangeAt Go.RowKit

end Go.Proofs.Ytiiiaeemblcniaa
