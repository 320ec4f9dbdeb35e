/- NextHalls: the reference's function. No condition but that the slices read. -/
import Derived.Test.YtlgcehdklpbknaaNextP
import Derived.Test.YtlgcehdklpbknaaTourT
namespace Go.Proofs.Ytlgcehdklpbknaa
open Go Go.RowKit Go.ChangeShapes Go.WideShapes
set_option linter.unusedSimpArgs false
set_option linter.unusedVariables false

end Go.Proofs.Ytlgcehdklpbknaa
