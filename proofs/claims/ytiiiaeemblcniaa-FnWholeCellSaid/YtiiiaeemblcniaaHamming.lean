/- Contracts of the functions on Hamming blocks. -/
import Derived.Test.YtiiiaeemblcniaaBits
import Derived.Test.YtiiiaeemblcniaaPlain2
namespace Go.Proofs.Ytiiiaeemblcniaa
set_option maxRecDepth 20000
open Go.ChangeShapes Go.WideShapes Go.ChangeAt Go.RowKit

end Go.Proofs.Ytiiiaeemblcniaa
