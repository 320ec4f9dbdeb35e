/- The text of a title: the program's function and the reference's. No condition but the library's table. -/
import Derived.Test.YtfldalhojebblaaGreatDoorTitle
import Derived.Test.YtfldalhojebblaaGreatDoorDec
namespace Go.Proofs.YtfldalhojebblaaGreatDoor
open Go Go.RowKit Go.ChangeShapes Go.WideShapes
set_option linter.unusedSimpArgs false
set_option linter.unusedVariables false

def titleS (a : Int) (b : ByteArray) (c d : Int) : ByteArray :=
  (⟨#[110, 111, 32]⟩ ++ decS a ++ ⟨#[32]⟩ ++ b ++ ⟨#[32, 103, 108, 97, 115, 115, 101, 115, 32]⟩ ++ decS c ++ ⟨#[32, 98, 114, 111, 107, 101, 110, 32]⟩ ++ decS d)
def textR (a : Int) (b : ByteArray) (c d : Int) : ByteArray := if okTitleB (a, b, c, d) = true then titleS a b c d else ByteArray.empty
theorem isName_len {s : ByteArray} (h : isNameB s = true) : s.size ≤ 12 := by
  by_cases q : s.size ≤ 12
  · exact q
  · rw [isName_long q] at h; cases h

end Go.Proofs.YtfldalhojebblaaGreatDoor
