/- Contracts of the functions on Hamming blocks. -/
import Derived.Test.YtmecbiphejjkmaaBits
import Derived.Test.YtmecbiphejjkmaaPlain2
namespace Go.Proofs.Ytmecbiphejjkmaa
set_option maxRecDepth 20000
open Go.ChangeShapes Go.WideShapes Go.ChangeAt Go.RowKit

end Go.Proofs.Ytmecbiphejjkmaa
