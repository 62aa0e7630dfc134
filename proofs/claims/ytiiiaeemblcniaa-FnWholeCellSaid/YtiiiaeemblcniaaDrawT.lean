/- Weak contract of the function that draws a threshold. -/
import Derived.Test.YtiiiaeemblcniaaDrawS
namespace Go.Proofs.Ytiiiaeemblcniaa
set_option maxRecDepth 20000
open Go.ChangeShapes Go.WideShapes Go.ChangeAt Go.RowKit
set_option linter.unusedVariables false
set_option linter.unusedSimpArgs false

end Go.Proofs.Ytiiiaeemblcniaa
