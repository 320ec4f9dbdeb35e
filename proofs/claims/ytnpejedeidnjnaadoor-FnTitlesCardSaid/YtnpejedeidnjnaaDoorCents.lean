/- Money as text: the program's function and the reference's. No condition but the library's table. -/
import Derived.Test.YtnpejedeidnjnaaDoorDec
namespace Go.Proofs.YtnpejedeidnjnaaDoor
open Go Go.RowKit Go.ChangeShapes Go.WideShapes
set_option linter.unusedSimpArgs false
set_option linter.unusedVariables false

def centsS (c : Int) : ByteArray := decS (c / 100) ++ ⟨#[46]⟩ ++ decS (c / 10 % 10) ++ decS (c % 10)
def moneyS (n : Int) : ByteArray := if n < 0 then ⟨#[45]⟩ ++ centsS (-n) else centsS n
def centsR (n : Int) : ByteArray := if inB n (-10000000) 10000000 = true then moneyS n else ByteArray.empty

end Go.Proofs.YtnpejedeidnjnaaDoor
