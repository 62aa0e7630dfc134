/- Weak contract of the function that draws the arguments of PilotSignal. -/
import Derived.Test.YtmecbiphejjkmaaDrawD
namespace Go.Proofs.Ytmecbiphejjkmaa
set_option maxRecDepth 20000
open Go.ChangeShapes Go.WideShapes Go.ChangeAt Go.RowKit
set_option linter.unusedVariables false
set_option linter.unusedSimpArgs false

end Go.Proofs.Ytmecbiphejjkmaa
