/-
  No cell of these rows narrows 'for every input' (looked for: loops, veiled, ifaces, maps, wideKeys, modest, calm, conditions, laid).
  DERIVED. THE GIVEN ROWS OF THIS SEAT. 20 by the template 'for every input the law returns true; each argument reads behind the call as it read before'; 0 by the template 'total and deterministic' (their statements: YtccplbfafmclmaaTotals.lean).
  GIVEN WITH THE SEED: the statements are not yours to turn. If you find one false, say at which input.
  Laid BY PROGRAM, IN A SANDBOX (cutbox-rows.mjs): the forced cells as the released guide's own fill.sh prints them over the translation 7e0bdd44b7d98936… (all of the seat's roots in one cut). By AI agents, Wed Nov 11 2026. No macro, syntax, notation, axiom, sorry.
-/
import Derived.Test.YtccplbfafmclmaaChecked
import GoSem.Claim
import GoSem.ClaimJoined
import GoSem.ClaimMapViews
import Derived.JoinedTies
import Derived.KernelRfl
namespace Go.Proofs.Ytccplbfafmclmaa
/- THE CELL 'sum', in the pinned program and in every row, IS THE sha256 OF THE DUMP (.gsa) THAT YtccplbfafmclmaaProg.lean LOADS. Nothing in Lean hashes anything: it is a label: what it is worth is what the hold of that sum in a sandbox is worth. -/
noncomputable def Try.pinned : Pinned := { name := "ytccplbfafmclmaa", sum := "7e0bdd44b7d98936e6bcedb827733e0839c75edcb5b08fbe10273c05f99aff92", checked := Try.checked }
namespace Rows
def none {H : Type} : Left H := { results := [], args := [] }

/-- 'laws.FnTours': WHATEVER THE INPUT: true; the input reads as it did. -/
def fnToursSpec : ChangeSpec := { name := "fnTours", fn := fun _ => fun
  | [d1, d2] => { results := [.lit (.bool true)], args := [d1, d2] }
  | _ => none }
def fnToursRow : OpenClaim := { program := "ytccplbfafmclmaa", sum := "7e0bdd44b7d98936e6bcedb827733e0839c75edcb5b08fbe10273c05f99aff92", func := "loop.example/g01063/laws.FnTours", spec := "fnTours", unfollowed := true, recurses := true, apart := false }
def FnToursSaid : Prop := fnToursRow.holds Try.pinned (OpenSpec.ofChange fnToursSpec)

/-- ITS FALSE NEIGHBOUR: 'it returns false'. Refute it at one input. -/
def fnToursWrong : ChangeSpec := { name := "fnTours", fn := fun _ => fun
  | [d1, d2] => { results := [.lit (.bool false)], args := [d1, d2] }
  | _ => none }
def FnToursWrongFalsely : Prop := fnToursRow.holds Try.pinned (OpenSpec.ofChange fnToursWrong)

/-- 'laws.FnExactDaysOut': WHATEVER THE INPUT: true; the input reads as it did. -/
def fnExactDaysOutSpec : ChangeSpec := { name := "fnExactDaysOut", fn := fun _ => fun
  | [d1, d2] => { results := [.lit (.bool true)], args := [d1, d2] }
  | _ => none }
def fnExactDaysOutRow : OpenClaim := { program := "ytccplbfafmclmaa", sum := "7e0bdd44b7d98936e6bcedb827733e0839c75edcb5b08fbe10273c05f99aff92", func := "loop.example/g01063/laws.FnExactDaysOut", spec := "fnExactDaysOut", unfollowed := true, recurses := true, apart := false }
def FnExactDaysOutSaid : Prop := fnExactDaysOutRow.holds Try.pinned (OpenSpec.ofChange fnExactDaysOutSpec)

/-- ITS FALSE NEIGHBOUR: 'it returns false'. Refute it at one input. -/
def fnExactDaysOutWrong : ChangeSpec := { name := "fnExactDaysOut", fn := fun _ => fun
  | [d1, d2] => { results := [.lit (.bool false)], args := [d1, d2] }
  | _ => none }
def FnExactDaysOutWrongFalsely : Prop := fnExactDaysOutRow.holds Try.pinned (OpenSpec.ofChange fnExactDaysOutWrong)

/-- 'laws.FnExactOutOn': WHATEVER THE INPUT: true; the input reads as it did. -/
def fnExactOutOnSpec : ChangeSpec := { name := "fnExactOutOn", fn := fun _ => fun
  | [d1, d2, d3, d4] => { results := [.lit (.bool true)], args := [d1, d2, d3, d4] }
  | _ => none }
def fnExactOutOnRow : OpenClaim := { program := "ytccplbfafmclmaa", sum := "7e0bdd44b7d98936e6bcedb827733e0839c75edcb5b08fbe10273c05f99aff92", func := "loop.example/g01063/laws.FnExactOutOn", spec := "fnExactOutOn", unfollowed := true, recurses := true, apart := false }
def FnExactOutOnSaid : Prop := fnExactOutOnRow.holds Try.pinned (OpenSpec.ofChange fnExactOutOnSpec)

/-- ITS FALSE NEIGHBOUR: 'it returns false'. Refute it at one input. -/
def fnExactOutOnWrong : ChangeSpec := { name := "fnExactOutOn", fn := fun _ => fun
  | [d1, d2, d3, d4] => { results := [.lit (.bool false)], args := [d1, d2, d3, d4] }
  | _ => none }
def FnExactOutOnWrongFalsely : Prop := fnExactOutOnRow.holds Try.pinned (OpenSpec.ofChange fnExactOutOnWrong)

/-- 'laws.FnRoads': WHATEVER THE INPUT: true; the input reads as it did. -/
def fnRoadsSpec : ChangeSpec := { name := "fnRoads", fn := fun _ => fun
  | [d1, d2] => { results := [.lit (.bool true)], args := [d1, d2] }
  | _ => none }
def fnRoadsRow : OpenClaim := { program := "ytccplbfafmclmaa", sum := "7e0bdd44b7d98936e6bcedb827733e0839c75edcb5b08fbe10273c05f99aff92", func := "loop.example/g01063/laws.FnRoads", spec := "fnRoads", unfollowed := true, recurses := true, apart := false }
def FnRoadsSaid : Prop := fnRoadsRow.holds Try.pinned (OpenSpec.ofChange fnRoadsSpec)

/-- ITS FALSE NEIGHBOUR: 'it returns false'. Refute it at one input. -/
def fnRoadsWrong : ChangeSpec := { name := "fnRoads", fn := fun _ => fun
  | [d1, d2] => { results := [.lit (.bool false)], args := [d1, d2] }
  | _ => none }
def FnRoadsWrongFalsely : Prop := fnRoadsRow.holds Try.pinned (OpenSpec.ofChange fnRoadsWrong)

/-- 'laws.FnExactFirstLack': WHATEVER THE INPUT: true; the input reads as it did. -/
def fnExactFirstLackSpec : ChangeSpec := { name := "fnExactFirstLack", fn := fun _ => fun
  | [d1, d2] => { results := [.lit (.bool true)], args := [d1, d2] }
  | _ => none }
def fnExactFirstLackRow : OpenClaim := { program := "ytccplbfafmclmaa", sum := "7e0bdd44b7d98936e6bcedb827733e0839c75edcb5b08fbe10273c05f99aff92", func := "loop.example/g01063/laws.FnExactFirstLack", spec := "fnExactFirstLack", unfollowed := true, recurses := true, apart := false }
def FnExactFirstLackSaid : Prop := fnExactFirstLackRow.holds Try.pinned (OpenSpec.ofChange fnExactFirstLackSpec)

/-- ITS FALSE NEIGHBOUR: 'it returns false'. Refute it at one input. -/
def fnExactFirstLackWrong : ChangeSpec := { name := "fnExactFirstLack", fn := fun _ => fun
  | [d1, d2] => { results := [.lit (.bool false)], args := [d1, d2] }
  | _ => none }
def FnExactFirstLackWrongFalsely : Prop := fnExactFirstLackRow.holds Try.pinned (OpenSpec.ofChange fnExactFirstLackWrong)

/-- 'laws.FnExactCanHire': WHATEVER THE INPUT: true; the input reads as it did. -/
def fnExactCanHireSpec : ChangeSpec := { name := "fnExactCanHire", fn := fun _ => fun
  | [d1, d2, d3] => { results := [.lit (.bool true)], args := [d1, d2, d3] }
  | _ => none }
def fnExactCanHireRow : OpenClaim := { program := "ytccplbfafmclmaa", sum := "7e0bdd44b7d98936e6bcedb827733e0839c75edcb5b08fbe10273c05f99aff92", func := "loop.example/g01063/laws.FnExactCanHire", spec := "fnExactCanHire", unfollowed := true, recurses := true, apart := false }
def FnExactCanHireSaid : Prop := fnExactCanHireRow.holds Try.pinned (OpenSpec.ofChange fnExactCanHireSpec)

/-- ITS FALSE NEIGHBOUR: 'it returns false'. Refute it at one input. -/
def fnExactCanHireWrong : ChangeSpec := { name := "fnExactCanHire", fn := fun _ => fun
  | [d1, d2, d3] => { results := [.lit (.bool false)], args := [d1, d2, d3] }
  | _ => none }
def FnExactCanHireWrongFalsely : Prop := fnExactCanHireRow.holds Try.pinned (OpenSpec.ofChange fnExactCanHireWrong)

/-- 'laws.FnExactMostOut': WHATEVER THE INPUT: true; the input reads as it did. -/
def fnExactMostOutSpec : ChangeSpec := { name := "fnExactMostOut", fn := fun _ => fun
  | [d1, d2, d3] => { results := [.lit (.bool true)], args := [d1, d2, d3] }
  | _ => none }
def fnExactMostOutRow : OpenClaim := { program := "ytccplbfafmclmaa", sum := "7e0bdd44b7d98936e6bcedb827733e0839c75edcb5b08fbe10273c05f99aff92", func := "loop.example/g01063/laws.FnExactMostOut", spec := "fnExactMostOut", unfollowed := true, recurses := true, apart := false }
def FnExactMostOutSaid : Prop := fnExactMostOutRow.holds Try.pinned (OpenSpec.ofChange fnExactMostOutSpec)

/-- ITS FALSE NEIGHBOUR: 'it returns false'. Refute it at one input. -/
def fnExactMostOutWrong : ChangeSpec := { name := "fnExactMostOut", fn := fun _ => fun
  | [d1, d2, d3] => { results := [.lit (.bool false)], args := [d1, d2, d3] }
  | _ => none }
def FnExactMostOutWrongFalsely : Prop := fnExactMostOutRow.holds Try.pinned (OpenSpec.ofChange fnExactMostOutWrong)

/-- 'laws.FnExactFirstFree': WHATEVER THE INPUT: true; the input reads as it did. -/
def fnExactFirstFreeSpec : ChangeSpec := { name := "fnExactFirstFree", fn := fun _ => fun
  | [d1, d2, d3, d4, d5] => { results := [.lit (.bool true)], args := [d1, d2, d3, d4, d5] }
  | _ => none }
def fnExactFirstFreeRow : OpenClaim := { program := "ytccplbfafmclmaa", sum := "7e0bdd44b7d98936e6bcedb827733e0839c75edcb5b08fbe10273c05f99aff92", func := "loop.example/g01063/laws.FnExactFirstFree", spec := "fnExactFirstFree", unfollowed := true, recurses := true, apart := false }
def FnExactFirstFreeSaid : Prop := fnExactFirstFreeRow.holds Try.pinned (OpenSpec.ofChange fnExactFirstFreeSpec)

/-- ITS FALSE NEIGHBOUR: 'it returns false'. Refute it at one input. -/
def fnExactFirstFreeWrong : ChangeSpec := { name := "fnExactFirstFree", fn := fun _ => fun
  | [d1, d2, d3, d4, d5] => { results := [.lit (.bool false)], args := [d1, d2, d3, d4, d5] }
  | _ => none }
def FnExactFirstFreeWrongFalsely : Prop := fnExactFirstFreeRow.holds Try.pinned (OpenSpec.ofChange fnExactFirstFreeWrong)

/-- 'laws.FnExactValidHalls': WHATEVER THE INPUT: true; the input reads as it did. -/
def fnExactValidHallsSpec : ChangeSpec := { name := "fnExactValidHalls", fn := fun _ => fun
  | [d1, d2] => { results := [.lit (.bool true)], args := [d1, d2] }
  | _ => none }
def fnExactValidHallsRow : OpenClaim := { program := "ytccplbfafmclmaa", sum := "7e0bdd44b7d98936e6bcedb827733e0839c75edcb5b08fbe10273c05f99aff92", func := "loop.example/g01063/laws.FnExactValidHalls", spec := "fnExactValidHalls", unfollowed := true, recurses := true, apart := false }
def FnExactValidHallsSaid : Prop := fnExactValidHallsRow.holds Try.pinned (OpenSpec.ofChange fnExactValidHallsSpec)

/-- ITS FALSE NEIGHBOUR: 'it returns false'. Refute it at one input. -/
def fnExactValidHallsWrong : ChangeSpec := { name := "fnExactValidHalls", fn := fun _ => fun
  | [d1, d2] => { results := [.lit (.bool false)], args := [d1, d2] }
  | _ => none }
def FnExactValidHallsWrongFalsely : Prop := fnExactValidHallsRow.holds Try.pinned (OpenSpec.ofChange fnExactValidHallsWrong)

/-- 'laws.FnExactAddHire': WHATEVER THE INPUT: true; the input reads as it did. -/
def fnExactAddHireSpec : ChangeSpec := { name := "fnExactAddHire", fn := fun _ => fun
  | [d1, d2, d3] => { results := [.lit (.bool true)], args := [d1, d2, d3] }
  | _ => none }
def fnExactAddHireRow : OpenClaim := { program := "ytccplbfafmclmaa", sum := "7e0bdd44b7d98936e6bcedb827733e0839c75edcb5b08fbe10273c05f99aff92", func := "loop.example/g01063/laws.FnExactAddHire", spec := "fnExactAddHire", unfollowed := true, recurses := true, apart := false }
def FnExactAddHireSaid : Prop := fnExactAddHireRow.holds Try.pinned (OpenSpec.ofChange fnExactAddHireSpec)

/-- ITS FALSE NEIGHBOUR: 'it returns false'. Refute it at one input. -/
def fnExactAddHireWrong : ChangeSpec := { name := "fnExactAddHire", fn := fun _ => fun
  | [d1, d2, d3] => { results := [.lit (.bool false)], args := [d1, d2, d3] }
  | _ => none }
def FnExactAddHireWrongFalsely : Prop := fnExactAddHireRow.holds Try.pinned (OpenSpec.ofChange fnExactAddHireWrong)

/-- 'laws.FnExactShorterRoads': WHATEVER THE INPUT: true; the input reads as it did. -/
def fnExactShorterRoadsSpec : ChangeSpec := { name := "fnExactShorterRoads", fn := fun _ => fun
  | [d] => { results := [.lit (.bool true)], args := [d] }
  | _ => none }
def fnExactShorterRoadsRow : OpenClaim := { program := "ytccplbfafmclmaa", sum := "7e0bdd44b7d98936e6bcedb827733e0839c75edcb5b08fbe10273c05f99aff92", func := "loop.example/g01063/laws.FnExactShorterRoads", spec := "fnExactShorterRoads", unfollowed := true, recurses := true, apart := false }
def FnExactShorterRoadsSaid : Prop := fnExactShorterRoadsRow.holds Try.pinned (OpenSpec.ofChange fnExactShorterRoadsSpec)

/-- ITS FALSE NEIGHBOUR: 'it returns false'. Refute it at one input. -/
def fnExactShorterRoadsWrong : ChangeSpec := { name := "fnExactShorterRoads", fn := fun _ => fun
  | [d] => { results := [.lit (.bool false)], args := [d] }
  | _ => none }
def FnExactShorterRoadsWrongFalsely : Prop := fnExactShorterRoadsRow.holds Try.pinned (OpenSpec.ofChange fnExactShorterRoadsWrong)

/-- 'laws.FnExactLongestTour': WHATEVER THE INPUT: true; the input reads as it did. -/
def fnExactLongestTourSpec : ChangeSpec := { name := "fnExactLongestTour", fn := fun _ => fun
  | [d1, d2] => { results := [.lit (.bool true)], args := [d1, d2] }
  | _ => none }
def fnExactLongestTourRow : OpenClaim := { program := "ytccplbfafmclmaa", sum := "7e0bdd44b7d98936e6bcedb827733e0839c75edcb5b08fbe10273c05f99aff92", func := "loop.example/g01063/laws.FnExactLongestTour", spec := "fnExactLongestTour", unfollowed := true, recurses := true, apart := false }
def FnExactLongestTourSaid : Prop := fnExactLongestTourRow.holds Try.pinned (OpenSpec.ofChange fnExactLongestTourSpec)

/-- ITS FALSE NEIGHBOUR: 'it returns false'. Refute it at one input. -/
def fnExactLongestTourWrong : ChangeSpec := { name := "fnExactLongestTour", fn := fun _ => fun
  | [d1, d2] => { results := [.lit (.bool false)], args := [d1, d2] }
  | _ => none }
def FnExactLongestTourWrongFalsely : Prop := fnExactLongestTourRow.holds Try.pinned (OpenSpec.ofChange fnExactLongestTourWrong)

/-- 'laws.FnExactTourIncome': WHATEVER THE INPUT: true; the input reads as it did. -/
def fnExactTourIncomeSpec : ChangeSpec := { name := "fnExactTourIncome", fn := fun _ => fun
  | [d1, d2, d3] => { results := [.lit (.bool true)], args := [d1, d2, d3] }
  | _ => none }
def fnExactTourIncomeRow : OpenClaim := { program := "ytccplbfafmclmaa", sum := "7e0bdd44b7d98936e6bcedb827733e0839c75edcb5b08fbe10273c05f99aff92", func := "loop.example/g01063/laws.FnExactTourIncome", spec := "fnExactTourIncome", unfollowed := true, recurses := true, apart := false }
def FnExactTourIncomeSaid : Prop := fnExactTourIncomeRow.holds Try.pinned (OpenSpec.ofChange fnExactTourIncomeSpec)

/-- ITS FALSE NEIGHBOUR: 'it returns false'. Refute it at one input. -/
def fnExactTourIncomeWrong : ChangeSpec := { name := "fnExactTourIncome", fn := fun _ => fun
  | [d1, d2, d3] => { results := [.lit (.bool false)], args := [d1, d2, d3] }
  | _ => none }
def FnExactTourIncomeWrongFalsely : Prop := fnExactTourIncomeRow.holds Try.pinned (OpenSpec.ofChange fnExactTourIncomeWrong)

/-- 'laws.FnExactWaitingDays': WHATEVER THE INPUT: true; the input reads as it did. -/
def fnExactWaitingDaysSpec : ChangeSpec := { name := "fnExactWaitingDays", fn := fun _ => fun
  | [d1, d2, d3] => { results := [.lit (.bool true)], args := [d1, d2, d3] }
  | _ => none }
def fnExactWaitingDaysRow : OpenClaim := { program := "ytccplbfafmclmaa", sum := "7e0bdd44b7d98936e6bcedb827733e0839c75edcb5b08fbe10273c05f99aff92", func := "loop.example/g01063/laws.FnExactWaitingDays", spec := "fnExactWaitingDays", unfollowed := true, recurses := true, apart := false }
def FnExactWaitingDaysSaid : Prop := fnExactWaitingDaysRow.holds Try.pinned (OpenSpec.ofChange fnExactWaitingDaysSpec)

/-- ITS FALSE NEIGHBOUR: 'it returns false'. Refute it at one input. -/
def fnExactWaitingDaysWrong : ChangeSpec := { name := "fnExactWaitingDays", fn := fun _ => fun
  | [d1, d2, d3] => { results := [.lit (.bool false)], args := [d1, d2, d3] }
  | _ => none }
def FnExactWaitingDaysWrongFalsely : Prop := fnExactWaitingDaysRow.holds Try.pinned (OpenSpec.ofChange fnExactWaitingDaysWrong)

/-- 'laws.FnExactTourDays': WHATEVER THE INPUT: true; the input reads as it did. -/
def fnExactTourDaysSpec : ChangeSpec := { name := "fnExactTourDays", fn := fun _ => fun
  | [d1, d2, d3] => { results := [.lit (.bool true)], args := [d1, d2, d3] }
  | _ => none }
def fnExactTourDaysRow : OpenClaim := { program := "ytccplbfafmclmaa", sum := "7e0bdd44b7d98936e6bcedb827733e0839c75edcb5b08fbe10273c05f99aff92", func := "loop.example/g01063/laws.FnExactTourDays", spec := "fnExactTourDays", unfollowed := true, recurses := true, apart := false }
def FnExactTourDaysSaid : Prop := fnExactTourDaysRow.holds Try.pinned (OpenSpec.ofChange fnExactTourDaysSpec)

/-- ITS FALSE NEIGHBOUR: 'it returns false'. Refute it at one input. -/
def fnExactTourDaysWrong : ChangeSpec := { name := "fnExactTourDays", fn := fun _ => fun
  | [d1, d2, d3] => { results := [.lit (.bool false)], args := [d1, d2, d3] }
  | _ => none }
def FnExactTourDaysWrongFalsely : Prop := fnExactTourDaysRow.holds Try.pinned (OpenSpec.ofChange fnExactTourDaysWrong)

/-- 'laws.FnExactBestTour': WHATEVER THE INPUT: true; the input reads as it did. -/
def fnExactBestTourSpec : ChangeSpec := { name := "fnExactBestTour", fn := fun _ => fun
  | [d1, d2] => { results := [.lit (.bool true)], args := [d1, d2] }
  | _ => none }
def fnExactBestTourRow : OpenClaim := { program := "ytccplbfafmclmaa", sum := "7e0bdd44b7d98936e6bcedb827733e0839c75edcb5b08fbe10273c05f99aff92", func := "loop.example/g01063/laws.FnExactBestTour", spec := "fnExactBestTour", unfollowed := true, recurses := true, apart := false }
def FnExactBestTourSaid : Prop := fnExactBestTourRow.holds Try.pinned (OpenSpec.ofChange fnExactBestTourSpec)

/-- ITS FALSE NEIGHBOUR: 'it returns false'. Refute it at one input. -/
def fnExactBestTourWrong : ChangeSpec := { name := "fnExactBestTour", fn := fun _ => fun
  | [d1, d2] => { results := [.lit (.bool false)], args := [d1, d2] }
  | _ => none }
def FnExactBestTourWrongFalsely : Prop := fnExactBestTourRow.holds Try.pinned (OpenSpec.ofChange fnExactBestTourWrong)

/-- 'laws.FnExactNextHalls': WHATEVER THE INPUT: true; the input reads as it did. -/
def fnExactNextHallsSpec : ChangeSpec := { name := "fnExactNextHalls", fn := fun _ => fun
  | [d1, d2, d3] => { results := [.lit (.bool true)], args := [d1, d2, d3] }
  | _ => none }
def fnExactNextHallsRow : OpenClaim := { program := "ytccplbfafmclmaa", sum := "7e0bdd44b7d98936e6bcedb827733e0839c75edcb5b08fbe10273c05f99aff92", func := "loop.example/g01063/laws.FnExactNextHalls", spec := "fnExactNextHalls", unfollowed := true, recurses := true, apart := false }
def FnExactNextHallsSaid : Prop := fnExactNextHallsRow.holds Try.pinned (OpenSpec.ofChange fnExactNextHallsSpec)

/-- ITS FALSE NEIGHBOUR: 'it returns false'. Refute it at one input. -/
def fnExactNextHallsWrong : ChangeSpec := { name := "fnExactNextHalls", fn := fun _ => fun
  | [d1, d2, d3] => { results := [.lit (.bool false)], args := [d1, d2, d3] }
  | _ => none }
def FnExactNextHallsWrongFalsely : Prop := fnExactNextHallsRow.holds Try.pinned (OpenSpec.ofChange fnExactNextHallsWrong)

/-- 'laws.FnExactMostAccepted': WHATEVER THE INPUT: true; the input reads as it did. -/
def fnExactMostAcceptedSpec : ChangeSpec := { name := "fnExactMostAccepted", fn := fun _ => fun
  | [d1, d2, d3] => { results := [.lit (.bool true)], args := [d1, d2, d3] }
  | _ => none }
def fnExactMostAcceptedRow : OpenClaim := { program := "ytccplbfafmclmaa", sum := "7e0bdd44b7d98936e6bcedb827733e0839c75edcb5b08fbe10273c05f99aff92", func := "loop.example/g01063/laws.FnExactMostAccepted", spec := "fnExactMostAccepted", unfollowed := true, recurses := true, apart := false }
def FnExactMostAcceptedSaid : Prop := fnExactMostAcceptedRow.holds Try.pinned (OpenSpec.ofChange fnExactMostAcceptedSpec)

/-- ITS FALSE NEIGHBOUR: 'it returns false'. Refute it at one input. -/
def fnExactMostAcceptedWrong : ChangeSpec := { name := "fnExactMostAccepted", fn := fun _ => fun
  | [d1, d2, d3] => { results := [.lit (.bool false)], args := [d1, d2, d3] }
  | _ => none }
def FnExactMostAcceptedWrongFalsely : Prop := fnExactMostAcceptedRow.holds Try.pinned (OpenSpec.ofChange fnExactMostAcceptedWrong)

/-- 'laws.FnHires': WHATEVER THE INPUT: true; the input reads as it did. -/
def fnHiresSpec : ChangeSpec := { name := "fnHires", fn := fun _ => fun
  | [d] => { results := [.lit (.bool true)], args := [d] }
  | _ => none }
def fnHiresRow : OpenClaim := { program := "ytccplbfafmclmaa", sum := "7e0bdd44b7d98936e6bcedb827733e0839c75edcb5b08fbe10273c05f99aff92", func := "loop.example/g01063/laws.FnHires", spec := "fnHires", unfollowed := true, recurses := true, apart := false }
def FnHiresSaid : Prop := fnHiresRow.holds Try.pinned (OpenSpec.ofChange fnHiresSpec)

/-- ITS FALSE NEIGHBOUR: 'it returns false'. Refute it at one input. -/
def fnHiresWrong : ChangeSpec := { name := "fnHires", fn := fun _ => fun
  | [d] => { results := [.lit (.bool false)], args := [d] }
  | _ => none }
def FnHiresWrongFalsely : Prop := fnHiresRow.holds Try.pinned (OpenSpec.ofChange fnHiresWrong)

/-- 'laws.FnAccepted': WHATEVER THE INPUT: true; the input reads as it did. -/
def fnAcceptedSpec : ChangeSpec := { name := "fnAccepted", fn := fun _ => fun
  | [d] => { results := [.lit (.bool true)], args := [d] }
  | _ => none }
def fnAcceptedRow : OpenClaim := { program := "ytccplbfafmclmaa", sum := "7e0bdd44b7d98936e6bcedb827733e0839c75edcb5b08fbe10273c05f99aff92", func := "loop.example/g01063/laws.FnAccepted", spec := "fnAccepted", unfollowed := true, recurses := true, apart := false }
def FnAcceptedSaid : Prop := fnAcceptedRow.holds Try.pinned (OpenSpec.ofChange fnAcceptedSpec)

/-- ITS FALSE NEIGHBOUR: 'it returns false'. Refute it at one input. -/
def fnAcceptedWrong : ChangeSpec := { name := "fnAccepted", fn := fun _ => fun
  | [d] => { results := [.lit (.bool false)], args := [d] }
  | _ => none }
def FnAcceptedWrongFalsely : Prop := fnAcceptedRow.holds Try.pinned (OpenSpec.ofChange fnAcceptedWrong)

/- THE SECOND FORM. 'bulk': how many values and letters a reading holds, each counted each time it is reached (what is shared counts as often as it is met; a slice's spare places count too). A statement '..UptoSaid' is the law's where the arguments, and the package variables that the reading takes, are together of bulk at most 1048576: NARROWER than '..Said'. Prove '..Said' where nothing that the law and all that it calls make is longer than what came in: it says more and counts as full. Else prove '..UptoSaid'. A law counts once. -/
mutual
def uptoBulk {H : Type} : DataW H → Nat
  | .lit (.string bytes) => bytes.length + 1
  | .lit _ => 1
  | .nil => 1
  | .ptr d => uptoBulk d + 1
  | .slice elems spare => uptoBulkAll elems + uptoBulkAll spare + 1
  | .agg parts => uptoBulkAll parts + 1
  | .iface _ d => uptoBulk d + 1
  | .map entries => uptoBulkEntries entries + 1
  | .held _ => 1
def uptoBulkAll {H : Type} : List (DataW H) → Nat
  | [] => 0
  | d :: r => uptoBulk d + uptoBulkAll r
def uptoBulkEntries {H : Type} : List (Lit × DataW H) → Nat
  | [] => 0
  | x :: r => uptoBulkEntry x + uptoBulkEntries r
def uptoBulkEntry {H : Type} : Lit × DataW H → Nat
  | (.string bytes, d) => bytes.length + uptoBulk d + 1
  | (_, d) => uptoBulk d + 1
 end
def uptoSmall : (H : Type) → List (DataW H) → Bool := fun _ ds => decide (uptoBulkAll ds ≤ 1048576)
def OpenSpec.upto (s : _root_.Go.ChangeSpec) : _root_.Go.OpenSpec := { _root_.Go.OpenSpec.ofChange s with cond := some uptoSmall }

/-- 'laws.FnTours', WHERE WHAT IT READS IS OF BULK AT MOST 1048576: true; the input reads as it did. -/
def fnToursUptoRow : OpenClaim := { program := "ytccplbfafmclmaa", sum := "7e0bdd44b7d98936e6bcedb827733e0839c75edcb5b08fbe10273c05f99aff92", func := "loop.example/g01063/laws.FnTours", spec := "fnTours", unfollowed := true, recurses := true, apart := false, narrowed := true }
def FnToursUptoSaid : Prop := fnToursUptoRow.holds Try.pinned (OpenSpec.upto fnToursSpec)

/-- 'laws.FnExactDaysOut', WHERE WHAT IT READS IS OF BULK AT MOST 1048576: true; the input reads as it did. -/
def fnExactDaysOutUptoRow : OpenClaim := { program := "ytccplbfafmclmaa", sum := "7e0bdd44b7d98936e6bcedb827733e0839c75edcb5b08fbe10273c05f99aff92", func := "loop.example/g01063/laws.FnExactDaysOut", spec := "fnExactDaysOut", unfollowed := true, recurses := true, apart := false, narrowed := true }
def FnExactDaysOutUptoSaid : Prop := fnExactDaysOutUptoRow.holds Try.pinned (OpenSpec.upto fnExactDaysOutSpec)

/-- 'laws.FnExactOutOn', WHERE WHAT IT READS IS OF BULK AT MOST 1048576: true; the input reads as it did. -/
def fnExactOutOnUptoRow : OpenClaim := { program := "ytccplbfafmclmaa", sum := "7e0bdd44b7d98936e6bcedb827733e0839c75edcb5b08fbe10273c05f99aff92", func := "loop.example/g01063/laws.FnExactOutOn", spec := "fnExactOutOn", unfollowed := true, recurses := true, apart := false, narrowed := true }
def FnExactOutOnUptoSaid : Prop := fnExactOutOnUptoRow.holds Try.pinned (OpenSpec.upto fnExactOutOnSpec)

/-- 'laws.FnRoads', WHERE WHAT IT READS IS OF BULK AT MOST 1048576: true; the input reads as it did. -/
def fnRoadsUptoRow : OpenClaim := { program := "ytccplbfafmclmaa", sum := "7e0bdd44b7d98936e6bcedb827733e0839c75edcb5b08fbe10273c05f99aff92", func := "loop.example/g01063/laws.FnRoads", spec := "fnRoads", unfollowed := true, recurses := true, apart := false, narrowed := true }
def FnRoadsUptoSaid : Prop := fnRoadsUptoRow.holds Try.pinned (OpenSpec.upto fnRoadsSpec)

/-- 'laws.FnExactFirstLack', WHERE WHAT IT READS IS OF BULK AT MOST 1048576: true; the input reads as it did. -/
def fnExactFirstLackUptoRow : OpenClaim := { program := "ytccplbfafmclmaa", sum := "7e0bdd44b7d98936e6bcedb827733e0839c75edcb5b08fbe10273c05f99aff92", func := "loop.example/g01063/laws.FnExactFirstLack", spec := "fnExactFirstLack", unfollowed := true, recurses := true, apart := false, narrowed := true }
def FnExactFirstLackUptoSaid : Prop := fnExactFirstLackUptoRow.holds Try.pinned (OpenSpec.upto fnExactFirstLackSpec)

/-- 'laws.FnExactCanHire', WHERE WHAT IT READS IS OF BULK AT MOST 1048576: true; the input reads as it did. -/
def fnExactCanHireUptoRow : OpenClaim := { program := "ytccplbfafmclmaa", sum := "7e0bdd44b7d98936e6bcedb827733e0839c75edcb5b08fbe10273c05f99aff92", func := "loop.example/g01063/laws.FnExactCanHire", spec := "fnExactCanHire", unfollowed := true, recurses := true, apart := false, narrowed := true }
def FnExactCanHireUptoSaid : Prop := fnExactCanHireUptoRow.holds Try.pinned (OpenSpec.upto fnExactCanHireSpec)

/-- 'laws.FnExactMostOut', WHERE WHAT IT READS IS OF BULK AT MOST 1048576: true; the input reads as it did. -/
def fnExactMostOutUptoRow : OpenClaim := { program := "ytccplbfafmclmaa", sum := "7e0bdd44b7d98936e6bcedb827733e0839c75edcb5b08fbe10273c05f99aff92", func := "loop.example/g01063/laws.FnExactMostOut", spec := "fnExactMostOut", unfollowed := true, recurses := true, apart := false, narrowed := true }
def FnExactMostOutUptoSaid : Prop := fnExactMostOutUptoRow.holds Try.pinned (OpenSpec.upto fnExactMostOutSpec)

/-- 'laws.FnExactFirstFree', WHERE WHAT IT READS IS OF BULK AT MOST 1048576: true; the input reads as it did. -/
def fnExactFirstFreeUptoRow : OpenClaim := { program := "ytccplbfafmclmaa", sum := "7e0bdd44b7d98936e6bcedb827733e0839c75edcb5b08fbe10273c05f99aff92", func := "loop.example/g01063/laws.FnExactFirstFree", spec := "fnExactFirstFree", unfollowed := true, recurses := true, apart := false, narrowed := true }
def FnExactFirstFreeUptoSaid : Prop := fnExactFirstFreeUptoRow.holds Try.pinned (OpenSpec.upto fnExactFirstFreeSpec)

/-- 'laws.FnExactValidHalls', WHERE WHAT IT READS IS OF BULK AT MOST 1048576: true; the input reads as it did. -/
def fnExactValidHallsUptoRow : OpenClaim := { program := "ytccplbfafmclmaa", sum := "7e0bdd44b7d98936e6bcedb827733e0839c75edcb5b08fbe10273c05f99aff92", func := "loop.example/g01063/laws.FnExactValidHalls", spec := "fnExactValidHalls", unfollowed := true, recurses := true, apart := false, narrowed := true }
def FnExactValidHallsUptoSaid : Prop := fnExactValidHallsUptoRow.holds Try.pinned (OpenSpec.upto fnExactValidHallsSpec)

/-- 'laws.FnExactAddHire', WHERE WHAT IT READS IS OF BULK AT MOST 1048576: true; the input reads as it did. -/
def fnExactAddHireUptoRow : OpenClaim := { program := "ytccplbfafmclmaa", sum := "7e0bdd44b7d98936e6bcedb827733e0839c75edcb5b08fbe10273c05f99aff92", func := "loop.example/g01063/laws.FnExactAddHire", spec := "fnExactAddHire", unfollowed := true, recurses := true, apart := false, narrowed := true }
def FnExactAddHireUptoSaid : Prop := fnExactAddHireUptoRow.holds Try.pinned (OpenSpec.upto fnExactAddHireSpec)

/-- 'laws.FnExactShorterRoads', WHERE WHAT IT READS IS OF BULK AT MOST 1048576: true; the input reads as it did. -/
def fnExactShorterRoadsUptoRow : OpenClaim := { program := "ytccplbfafmclmaa", sum := "7e0bdd44b7d98936e6bcedb827733e0839c75edcb5b08fbe10273c05f99aff92", func := "loop.example/g01063/laws.FnExactShorterRoads", spec := "fnExactShorterRoads", unfollowed := true, recurses := true, apart := false, narrowed := true }
def FnExactShorterRoadsUptoSaid : Prop := fnExactShorterRoadsUptoRow.holds Try.pinned (OpenSpec.upto fnExactShorterRoadsSpec)

/-- 'laws.FnExactLongestTour', WHERE WHAT IT READS IS OF BULK AT MOST 1048576: true; the input reads as it did. -/
def fnExactLongestTourUptoRow : OpenClaim := { program := "ytccplbfafmclmaa", sum := "7e0bdd44b7d98936e6bcedb827733e0839c75edcb5b08fbe10273c05f99aff92", func := "loop.example/g01063/laws.FnExactLongestTour", spec := "fnExactLongestTour", unfollowed := true, recurses := true, apart := false, narrowed := true }
def FnExactLongestTourUptoSaid : Prop := fnExactLongestTourUptoRow.holds Try.pinned (OpenSpec.upto fnExactLongestTourSpec)

/-- 'laws.FnExactTourIncome', WHERE WHAT IT READS IS OF BULK AT MOST 1048576: true; the input reads as it did. -/
def fnExactTourIncomeUptoRow : OpenClaim := { program := "ytccplbfafmclmaa", sum := "7e0bdd44b7d98936e6bcedb827733e0839c75edcb5b08fbe10273c05f99aff92", func := "loop.example/g01063/laws.FnExactTourIncome", spec := "fnExactTourIncome", unfollowed := true, recurses := true, apart := false, narrowed := true }
def FnExactTourIncomeUptoSaid : Prop := fnExactTourIncomeUptoRow.holds Try.pinned (OpenSpec.upto fnExactTourIncomeSpec)

/-- 'laws.FnExactWaitingDays', WHERE WHAT IT READS IS OF BULK AT MOST 1048576: true; the input reads as it did. -/
def fnExactWaitingDaysUptoRow : OpenClaim := { program := "ytccplbfafmclmaa", sum := "7e0bdd44b7d98936e6bcedb827733e0839c75edcb5b08fbe10273c05f99aff92", func := "loop.example/g01063/laws.FnExactWaitingDays", spec := "fnExactWaitingDays", unfollowed := true, recurses := true, apart := false, narrowed := true }
def FnExactWaitingDaysUptoSaid : Prop := fnExactWaitingDaysUptoRow.holds Try.pinned (OpenSpec.upto fnExactWaitingDaysSpec)

/-- 'laws.FnExactTourDays', WHERE WHAT IT READS IS OF BULK AT MOST 1048576: true; the input reads as it did. -/
def fnExactTourDaysUptoRow : OpenClaim := { program := "ytccplbfafmclmaa", sum := "7e0bdd44b7d98936e6bcedb827733e0839c75edcb5b08fbe10273c05f99aff92", func := "loop.example/g01063/laws.FnExactTourDays", spec := "fnExactTourDays", unfollowed := true, recurses := true, apart := false, narrowed := true }
def FnExactTourDaysUptoSaid : Prop := fnExactTourDaysUptoRow.holds Try.pinned (OpenSpec.upto fnExactTourDaysSpec)

/-- 'laws.FnExactBestTour', WHERE WHAT IT READS IS OF BULK AT MOST 1048576: true; the input reads as it did. -/
def fnExactBestTourUptoRow : OpenClaim := { program := "ytccplbfafmclmaa", sum := "7e0bdd44b7d98936e6bcedb827733e0839c75edcb5b08fbe10273c05f99aff92", func := "loop.example/g01063/laws.FnExactBestTour", spec := "fnExactBestTour", unfollowed := true, recurses := true, apart := false, narrowed := true }
def FnExactBestTourUptoSaid : Prop := fnExactBestTourUptoRow.holds Try.pinned (OpenSpec.upto fnExactBestTourSpec)

/-- 'laws.FnExactNextHalls', WHERE WHAT IT READS IS OF BULK AT MOST 1048576: true; the input reads as it did. -/
def fnExactNextHallsUptoRow : OpenClaim := { program := "ytccplbfafmclmaa", sum := "7e0bdd44b7d98936e6bcedb827733e0839c75edcb5b08fbe10273c05f99aff92", func := "loop.example/g01063/laws.FnExactNextHalls", spec := "fnExactNextHalls", unfollowed := true, recurses := true, apart := false, narrowed := true }
def FnExactNextHallsUptoSaid : Prop := fnExactNextHallsUptoRow.holds Try.pinned (OpenSpec.upto fnExactNextHallsSpec)

/-- 'laws.FnExactMostAccepted', WHERE WHAT IT READS IS OF BULK AT MOST 1048576: true; the input reads as it did. -/
def fnExactMostAcceptedUptoRow : OpenClaim := { program := "ytccplbfafmclmaa", sum := "7e0bdd44b7d98936e6bcedb827733e0839c75edcb5b08fbe10273c05f99aff92", func := "loop.example/g01063/laws.FnExactMostAccepted", spec := "fnExactMostAccepted", unfollowed := true, recurses := true, apart := false, narrowed := true }
def FnExactMostAcceptedUptoSaid : Prop := fnExactMostAcceptedUptoRow.holds Try.pinned (OpenSpec.upto fnExactMostAcceptedSpec)

/-- 'laws.FnHires', WHERE WHAT IT READS IS OF BULK AT MOST 1048576: true; the input reads as it did. -/
def fnHiresUptoRow : OpenClaim := { program := "ytccplbfafmclmaa", sum := "7e0bdd44b7d98936e6bcedb827733e0839c75edcb5b08fbe10273c05f99aff92", func := "loop.example/g01063/laws.FnHires", spec := "fnHires", unfollowed := true, recurses := true, apart := false, narrowed := true }
def FnHiresUptoSaid : Prop := fnHiresUptoRow.holds Try.pinned (OpenSpec.upto fnHiresSpec)

/-- 'laws.FnAccepted', WHERE WHAT IT READS IS OF BULK AT MOST 1048576: true; the input reads as it did. -/
def fnAcceptedUptoRow : OpenClaim := { program := "ytccplbfafmclmaa", sum := "7e0bdd44b7d98936e6bcedb827733e0839c75edcb5b08fbe10273c05f99aff92", func := "loop.example/g01063/laws.FnAccepted", spec := "fnAccepted", unfollowed := true, recurses := true, apart := false, narrowed := true }
def FnAcceptedUptoSaid : Prop := fnAcceptedUptoRow.holds Try.pinned (OpenSpec.upto fnAcceptedSpec)

end Rows
end Go.Proofs.Ytccplbfafmclmaa
