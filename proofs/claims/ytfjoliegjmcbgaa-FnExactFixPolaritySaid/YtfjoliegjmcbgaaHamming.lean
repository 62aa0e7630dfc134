/- Contracts of the functions on Hamming blocks. -/
import Derived.Test.YtfjoliegjmcbgaaBits
import Derived.Test.YtfjoliegjmcbgaaPlain2
namespace Go.Proofs.Ytfjoliegjmcbgaa
open Go.ChangeShapes Go.WideShapes Go.ChangeAt Go.RowKit

end Go.Proofs.Ytfjoliegjmcbgaa
