/- Contracts of the functions on changes of bits. -/
import Derived.Test.YtfjoliegjmcbgaaSums
import Derived.WalkSpells
import Derived.IntWalk
namespace Go.Proofs.Ytfjoliegjmcbgaa
open Go.ChangeShapes Go.WideShapes Go.ChangeAt Go.RowKit

end Go.Proofs.Ytfjoliegjmcbgaa
