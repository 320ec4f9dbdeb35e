/- LongestTour and BestTour: the reference's functions. No condition but that the slices read. -/
import Derived.Test.YtlgcehdklpbknaaVisitS
namespace Go.Proofs.Ytlgcehdklpbknaa
open Go Go.RowKit Go.ChangeShapes Go.WideShapes
set_option linter.unusedSimpArgs false
set_option linter.unusedVariables false

def GivesAll (w : World) (r : (List Int × Int) × Int) (e : Ending) (w' : World) : Prop :=
  ∃ gw vb, e = .returned (.pointer (some ⟨gw, 0, none⟩)) ∧ Own w' w.heap.size 2 1 vb eI r.1.1 ∧ w'.cell? ⟨gw, 2, none⟩ = some vb ∧ w'.cell? ⟨gw, 3, none⟩ = some (.int .i64 r.1.2) ∧ w'.cell? ⟨gw, 4, none⟩ = some (.int .i64 r.2) ∧ Below w.heap.size w w'
end Go.Proofs.Ytlgcehdklpbknaa
