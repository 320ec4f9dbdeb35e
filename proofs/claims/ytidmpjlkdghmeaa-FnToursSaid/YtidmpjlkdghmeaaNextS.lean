/- NextHalls: the reference's function. No condition but that the slices read. -/
import Derived.Test.YtidmpjlkdghmeaaNextP
import Derived.Test.YtidmpjlkdghmeaaTourT
namespace Go.Proofs.Ytidmpjlkdghmeaa
open Go Go.RowKit Go.ChangeShapes Go.WideShapes
set_option linter.unusedSimpArgs false
set_option linter.unusedVariables false

end Go.Proofs.Ytidmpjlkdghmeaa
