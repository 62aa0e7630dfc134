/- Contracts of the functions on Hamming blocks. -/
import Derived.Test.YtholipfekecloaaBits
import Derived.Test.YtholipfekecloaaPlain2
namespace Go.Proofs.Ytholipfekecloaa
set_option maxRecDepth 20000
open Go.ChangeShapes Go.WideShapes Go.ChangeAt Go.RowKit

end Go.Proofs.Ytholipfekecloaa
