/- Lemmas for the claim (the walks of its functions and their plain laws), joined. No condition. -/
import Derived.Test.YtgcodjkjdfahdaaGreatDoorJ4
import Derived.Test.YtgcodjkjdfahdaaGreatDoorJ1
import Derived.Test.YtgcodjkjdfahdaaGreatDoorJ5
import Derived.BigQuiet
import Derived.RangeFuncBox
import Derived.Laws.Bits64b
import Derived.Maps.AppendAt
namespace Go.Proofs.YtgcodjkjdfahdaaGreatDoor
open Go Go.RowKit Go.ChangeShapes Go.WideShapes
set_option linter.unusedSimpArgs false
set_option linter.unusedVariables false
end Go.Proofs.YtgcodjkjdfahdaaGreatDoor

namespace Go.Proofs.YtgcodjkjdfahdaaGreatDoor
open Go Go.RowKit Go.ChangeShapes Go.WideShapes
set_option linter.unusedSimpArgs false
set_option linter.unusedVariables false
end Go.Proofs.YtgcodjkjdfahdaaGreatDoor

namespace Go.Proofs.YtgcodjkjdfahdaaGreatDoor
open Go Go.RowKit Go.ChangeShapes Go.WideShapes
set_option linter.unusedSimpArgs false
set_option linter.unusedVariables false
end Go.Proofs.YtgcodjkjdfahdaaGreatDoor

namespace Go.Proofs.YtgcodjkjdfahdaaGreatDoor
open Go Go.RowKit Go.ChangeShapes Go.WideShapes
set_option linter.unusedSimpArgs false
set_option linter.unusedVariables false
section
variable {W W' : World} {B E : Nat} {T : TypeId} {cs : List Value}
end
theorem ne_of_lt {v v' : Value} {N : Nat} (h1 : ∀ b, v.ownBlock = some b → b < N) (h2 : ∀ b, v'.ownBlock = some b → N ≤ b) : v.ownBlock = none ∨ v.ownBlock ≠ v'.ownBlock := by
  rcases q : v.ownBlock with _ | b
  · exact .inl rfl
  · refine .inr fun e => ?_
    have := h1 b q
    have := h2 b e.symm
    omega
end Go.Proofs.YtgcodjkjdfahdaaGreatDoor
