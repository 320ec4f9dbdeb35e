/-
  No cell of these rows narrows 'for every input' (looked for: loops, veiled, ifaces, maps, wideKeys, modest, calm, conditions, laid).
  DERIVED. THE GIVEN ROWS OF THIS SEAT. 10 by the template 'for every input the law returns true; each argument reads behind the call as it read before'; 0 by the template 'total and deterministic' (their statements: YtmflfealodgdeaaTotals.lean).
  GIVEN WITH THE SEED: the statements are not yours to turn. If you find one false, say at which input.
  Laid BY PROGRAM, IN A SANDBOX (cutbox-rows.mjs): the forced cells as the released guide's own fill.sh prints them over the translation 9469b6f0d00d1e7e… (all of the seat's roots in one cut). By AI agents, Wed Nov 11 2026. No macro, syntax, notation, axiom, sorry.
-/
import Derived.Test.YtmflfealodgdeaaChecked
import GoSem.Claim
import GoSem.ClaimJoined
import GoSem.ClaimMapViews
import Derived.JoinedTies
import Derived.KernelRfl
namespace Go.Proofs.Ytmflfealodgdeaa
/- THE CELL 'sum', in the pinned program and in every row, IS THE sha256 OF THE DUMP (.gsa) THAT YtmflfealodgdeaaProg.lean LOADS. Nothing in Lean hashes anything: it is a label: what it is worth is what the hold of that sum in a sandbox is worth. -/
noncomputable def Try.pinned : Pinned := { name := "ytmflfealodgdeaa", sum := "9469b6f0d00d1e7e9beb7156d4c87109dcdfecc2a043096311a716447592cb3c", checked := Try.checked }
namespace Rows
def none {H : Type} : Left H := { results := [], args := [] }

/-- 'laws.FnExactValidHalls': WHATEVER THE INPUT: true; the input reads as it did. -/
def fnExactValidHallsSpec : ChangeSpec := { name := "fnExactValidHalls", fn := fun _ => fun
  | [d1, d2] => { results := [.lit (.bool true)], args := [d1, d2] }
  | _ => none }
def fnExactValidHallsRow : OpenClaim := { program := "ytmflfealodgdeaa", sum := "9469b6f0d00d1e7e9beb7156d4c87109dcdfecc2a043096311a716447592cb3c", func := "loop.example/g01063/laws.FnExactValidHalls", spec := "fnExactValidHalls", unfollowed := true, recurses := true, apart := false }
def FnExactValidHallsSaid : Prop := fnExactValidHallsRow.holds Try.pinned (OpenSpec.ofChange fnExactValidHallsSpec)

/-- ITS FALSE NEIGHBOUR: 'it returns false'. Refute it at one input. -/
def fnExactValidHallsWrong : ChangeSpec := { name := "fnExactValidHalls", fn := fun _ => fun
  | [d1, d2] => { results := [.lit (.bool false)], args := [d1, d2] }
  | _ => none }
def FnExactValidHallsWrongFalsely : Prop := fnExactValidHallsRow.holds Try.pinned (OpenSpec.ofChange fnExactValidHallsWrong)

/-- 'laws.FnExactShorterRoads': WHATEVER THE INPUT: true; the input reads as it did. -/
def fnExactShorterRoadsSpec : ChangeSpec := { name := "fnExactShorterRoads", fn := fun _ => fun
  | [d] => { results := [.lit (.bool true)], args := [d] }
  | _ => none }
def fnExactShorterRoadsRow : OpenClaim := { program := "ytmflfealodgdeaa", sum := "9469b6f0d00d1e7e9beb7156d4c87109dcdfecc2a043096311a716447592cb3c", func := "loop.example/g01063/laws.FnExactShorterRoads", spec := "fnExactShorterRoads", unfollowed := true, recurses := true, apart := false }
def FnExactShorterRoadsSaid : Prop := fnExactShorterRoadsRow.holds Try.pinned (OpenSpec.ofChange fnExactShorterRoadsSpec)

/-- ITS FALSE NEIGHBOUR: 'it returns false'. Refute it at one input. -/
def fnExactShorterRoadsWrong : ChangeSpec := { name := "fnExactShorterRoads", fn := fun _ => fun
  | [d] => { results := [.lit (.bool false)], args := [d] }
  | _ => none }
def FnExactShorterRoadsWrongFalsely : Prop := fnExactShorterRoadsRow.holds Try.pinned (OpenSpec.ofChange fnExactShorterRoadsWrong)

/-- 'laws.FnExactLongestTour': WHATEVER THE INPUT: true; the input reads as it did. -/
def fnExactLongestTourSpec : ChangeSpec := { name := "fnExactLongestTour", fn := fun _ => fun
  | [d1, d2] => { results := [.lit (.bool true)], args := [d1, d2] }
  | _ => none }
def fnExactLongestTourRow : OpenClaim := { program := "ytmflfealodgdeaa", sum := "9469b6f0d00d1e7e9beb7156d4c87109dcdfecc2a043096311a716447592cb3c", func := "loop.example/g01063/laws.FnExactLongestTour", spec := "fnExactLongestTour", unfollowed := true, recurses := true, apart := false }
def FnExactLongestTourSaid : Prop := fnExactLongestTourRow.holds Try.pinned (OpenSpec.ofChange fnExactLongestTourSpec)

/-- ITS FALSE NEIGHBOUR: 'it returns false'. Refute it at one input. -/
def fnExactLongestTourWrong : ChangeSpec := { name := "fnExactLongestTour", fn := fun _ => fun
  | [d1, d2] => { results := [.lit (.bool false)], args := [d1, d2] }
  | _ => none }
def FnExactLongestTourWrongFalsely : Prop := fnExactLongestTourRow.holds Try.pinned (OpenSpec.ofChange fnExactLongestTourWrong)

/-- 'laws.FnExactTourIncome': WHATEVER THE INPUT: true; the input reads as it did. -/
def fnExactTourIncomeSpec : ChangeSpec := { name := "fnExactTourIncome", fn := fun _ => fun
  | [d1, d2, d3] => { results := [.lit (.bool true)], args := [d1, d2, d3] }
  | _ => none }
def fnExactTourIncomeRow : OpenClaim := { program := "ytmflfealodgdeaa", sum := "9469b6f0d00d1e7e9beb7156d4c87109dcdfecc2a043096311a716447592cb3c", func := "loop.example/g01063/laws.FnExactTourIncome", spec := "fnExactTourIncome", unfollowed := true, recurses := true, apart := false }
def FnExactTourIncomeSaid : Prop := fnExactTourIncomeRow.holds Try.pinned (OpenSpec.ofChange fnExactTourIncomeSpec)

/-- ITS FALSE NEIGHBOUR: 'it returns false'. Refute it at one input. -/
def fnExactTourIncomeWrong : ChangeSpec := { name := "fnExactTourIncome", fn := fun _ => fun
  | [d1, d2, d3] => { results := [.lit (.bool false)], args := [d1, d2, d3] }
  | _ => none }
def FnExactTourIncomeWrongFalsely : Prop := fnExactTourIncomeRow.holds Try.pinned (OpenSpec.ofChange fnExactTourIncomeWrong)

/-- 'laws.FnExactWaitingDays': WHATEVER THE INPUT: true; the input reads as it did. -/
def fnExactWaitingDaysSpec : ChangeSpec := { name := "fnExactWaitingDays", fn := fun _ => fun
  | [d1, d2, d3] => { results := [.lit (.bool true)], args := [d1, d2, d3] }
  | _ => none }
def fnExactWaitingDaysRow : OpenClaim := { program := "ytmflfealodgdeaa", sum := "9469b6f0d00d1e7e9beb7156d4c87109dcdfecc2a043096311a716447592cb3c", func := "loop.example/g01063/laws.FnExactWaitingDays", spec := "fnExactWaitingDays", unfollowed := true, recurses := true, apart := false }
def FnExactWaitingDaysSaid : Prop := fnExactWaitingDaysRow.holds Try.pinned (OpenSpec.ofChange fnExactWaitingDaysSpec)

/-- ITS FALSE NEIGHBOUR: 'it returns false'. Refute it at one input. -/
def fnExactWaitingDaysWrong : ChangeSpec := { name := "fnExactWaitingDays", fn := fun _ => fun
  | [d1, d2, d3] => { results := [.lit (.bool false)], args := [d1, d2, d3] }
  | _ => none }
def FnExactWaitingDaysWrongFalsely : Prop := fnExactWaitingDaysRow.holds Try.pinned (OpenSpec.ofChange fnExactWaitingDaysWrong)

/-- 'laws.FnExactTourDays': WHATEVER THE INPUT: true; the input reads as it did. -/
def fnExactTourDaysSpec : ChangeSpec := { name := "fnExactTourDays", fn := fun _ => fun
  | [d1, d2, d3] => { results := [.lit (.bool true)], args := [d1, d2, d3] }
  | _ => none }
def fnExactTourDaysRow : OpenClaim := { program := "ytmflfealodgdeaa", sum := "9469b6f0d00d1e7e9beb7156d4c87109dcdfecc2a043096311a716447592cb3c", func := "loop.example/g01063/laws.FnExactTourDays", spec := "fnExactTourDays", unfollowed := true, recurses := true, apart := false }
def FnExactTourDaysSaid : Prop := fnExactTourDaysRow.holds Try.pinned (OpenSpec.ofChange fnExactTourDaysSpec)

/-- ITS FALSE NEIGHBOUR: 'it returns false'. Refute it at one input. -/
def fnExactTourDaysWrong : ChangeSpec := { name := "fnExactTourDays", fn := fun _ => fun
  | [d1, d2, d3] => { results := [.lit (.bool false)], args := [d1, d2, d3] }
  | _ => none }
def FnExactTourDaysWrongFalsely : Prop := fnExactTourDaysRow.holds Try.pinned (OpenSpec.ofChange fnExactTourDaysWrong)

/-- 'laws.FnExactBestTour': WHATEVER THE INPUT: true; the input reads as it did. -/
def fnExactBestTourSpec : ChangeSpec := { name := "fnExactBestTour", fn := fun _ => fun
  | [d1, d2] => { results := [.lit (.bool true)], args := [d1, d2] }
  | _ => none }
def fnExactBestTourRow : OpenClaim := { program := "ytmflfealodgdeaa", sum := "9469b6f0d00d1e7e9beb7156d4c87109dcdfecc2a043096311a716447592cb3c", func := "loop.example/g01063/laws.FnExactBestTour", spec := "fnExactBestTour", unfollowed := true, recurses := true, apart := false }
def FnExactBestTourSaid : Prop := fnExactBestTourRow.holds Try.pinned (OpenSpec.ofChange fnExactBestTourSpec)

/-- ITS FALSE NEIGHBOUR: 'it returns false'. Refute it at one input. -/
def fnExactBestTourWrong : ChangeSpec := { name := "fnExactBestTour", fn := fun _ => fun
  | [d1, d2] => { results := [.lit (.bool false)], args := [d1, d2] }
  | _ => none }
def FnExactBestTourWrongFalsely : Prop := fnExactBestTourRow.holds Try.pinned (OpenSpec.ofChange fnExactBestTourWrong)

/-- 'laws.FnExactNextHalls': WHATEVER THE INPUT: true; the input reads as it did. -/
def fnExactNextHallsSpec : ChangeSpec := { name := "fnExactNextHalls", fn := fun _ => fun
  | [d1, d2, d3] => { results := [.lit (.bool true)], args := [d1, d2, d3] }
  | _ => none }
def fnExactNextHallsRow : OpenClaim := { program := "ytmflfealodgdeaa", sum := "9469b6f0d00d1e7e9beb7156d4c87109dcdfecc2a043096311a716447592cb3c", func := "loop.example/g01063/laws.FnExactNextHalls", spec := "fnExactNextHalls", unfollowed := true, recurses := true, apart := false }
def FnExactNextHallsSaid : Prop := fnExactNextHallsRow.holds Try.pinned (OpenSpec.ofChange fnExactNextHallsSpec)

/-- ITS FALSE NEIGHBOUR: 'it returns false'. Refute it at one input. -/
def fnExactNextHallsWrong : ChangeSpec := { name := "fnExactNextHalls", fn := fun _ => fun
  | [d1, d2, d3] => { results := [.lit (.bool false)], args := [d1, d2, d3] }
  | _ => none }
def FnExactNextHallsWrongFalsely : Prop := fnExactNextHallsRow.holds Try.pinned (OpenSpec.ofChange fnExactNextHallsWrong)

/-- 'laws.FnTours': WHATEVER THE INPUT: true; the input reads as it did. -/
def fnToursSpec : ChangeSpec := { name := "fnTours", fn := fun _ => fun
  | [d1, d2] => { results := [.lit (.bool true)], args := [d1, d2] }
  | _ => none }
def fnToursRow : OpenClaim := { program := "ytmflfealodgdeaa", sum := "9469b6f0d00d1e7e9beb7156d4c87109dcdfecc2a043096311a716447592cb3c", func := "loop.example/g01063/laws.FnTours", spec := "fnTours", unfollowed := true, recurses := true, apart := false }
def FnToursSaid : Prop := fnToursRow.holds Try.pinned (OpenSpec.ofChange fnToursSpec)

/-- ITS FALSE NEIGHBOUR: 'it returns false'. Refute it at one input. -/
def fnToursWrong : ChangeSpec := { name := "fnTours", fn := fun _ => fun
  | [d1, d2] => { results := [.lit (.bool false)], args := [d1, d2] }
  | _ => none }
def FnToursWrongFalsely : Prop := fnToursRow.holds Try.pinned (OpenSpec.ofChange fnToursWrong)

/-- 'laws.FnRoads': WHATEVER THE INPUT: true; the input reads as it did. -/
def fnRoadsSpec : ChangeSpec := { name := "fnRoads", fn := fun _ => fun
  | [d1, d2] => { results := [.lit (.bool true)], args := [d1, d2] }
  | _ => none }
def fnRoadsRow : OpenClaim := { program := "ytmflfealodgdeaa", sum := "9469b6f0d00d1e7e9beb7156d4c87109dcdfecc2a043096311a716447592cb3c", func := "loop.example/g01063/laws.FnRoads", spec := "fnRoads", unfollowed := true, recurses := true, apart := false }
def FnRoadsSaid : Prop := fnRoadsRow.holds Try.pinned (OpenSpec.ofChange fnRoadsSpec)

/-- ITS FALSE NEIGHBOUR: 'it returns false'. Refute it at one input. -/
def fnRoadsWrong : ChangeSpec := { name := "fnRoads", fn := fun _ => fun
  | [d1, d2] => { results := [.lit (.bool false)], args := [d1, d2] }
  | _ => none }
def FnRoadsWrongFalsely : Prop := fnRoadsRow.holds Try.pinned (OpenSpec.ofChange fnRoadsWrong)

/- THE SECOND FORM. 'bulk': how many values and letters a reading holds, each counted each time it is reached (what is shared counts as often as it is met; a slice's spare places count too). A statement '..UptoSaid' is the law's where the arguments, and the package variables that the reading takes, are together of bulk at most 1048576: NARROWER than '..Said'. Prove '..Said' where nothing that the law and all that it calls make is longer than what came in: it says more and counts as full. Else prove '..UptoSaid'. A law counts once. -/
mutual
def uptoBulk {H : Type} : DataW H → Nat
  | .lit (.string bytes) => bytes.length + 1
  | .lit _ => 1
  | .nil => 1
  | .ptr d => uptoBulk d + 1
  | .slice elems spare => uptoBulkAll elems + uptoBulkAll spare + 1
  | .agg parts => uptoBulkAll parts + 1
  | .iface _ d => uptoBulk d + 1
  | .map entries => uptoBulkEntries entries + 1
  | .held _ => 1
def uptoBulkAll {H : Type} : List (DataW H) → Nat
  | [] => 0
  | d :: r => uptoBulk d + uptoBulkAll r
def uptoBulkEntries {H : Type} : List (Lit × DataW H) → Nat
  | [] => 0
  | x :: r => uptoBulkEntry x + uptoBulkEntries r
def uptoBulkEntry {H : Type} : Lit × DataW H → Nat
  | (.string bytes, d) => bytes.length + uptoBulk d + 1
  | (_, d) => uptoBulk d + 1
 end
def uptoSmall : (H : Type) → List (DataW H) → Bool := fun _ ds => decide (uptoBulkAll ds ≤ 1048576)
def OpenSpec.upto (s : _root_.Go.ChangeSpec) : _root_.Go.OpenSpec := { _root_.Go.OpenSpec.ofChange s with cond := some uptoSmall }

/-- 'laws.FnExactValidHalls', WHERE WHAT IT READS IS OF BULK AT MOST 1048576: true; the input reads as it did. -/
def fnExactValidHallsUptoRow : OpenClaim := { program := "ytmflfealodgdeaa", sum := "9469b6f0d00d1e7e9beb7156d4c87109dcdfecc2a043096311a716447592cb3c", func := "loop.example/g01063/laws.FnExactValidHalls", spec := "fnExactValidHalls", unfollowed := true, recurses := true, apart := false, narrowed := true }
def FnExactValidHallsUptoSaid : Prop := fnExactValidHallsUptoRow.holds Try.pinned (OpenSpec.upto fnExactValidHallsSpec)

/-- 'laws.FnExactShorterRoads', WHERE WHAT IT READS IS OF BULK AT MOST 1048576: true; the input reads as it did. -/
def fnExactShorterRoadsUptoRow : OpenClaim := { program := "ytmflfealodgdeaa", sum := "9469b6f0d00d1e7e9beb7156d4c87109dcdfecc2a043096311a716447592cb3c", func := "loop.example/g01063/laws.FnExactShorterRoads", spec := "fnExactShorterRoads", unfollowed := true, recurses := true, apart := false, narrowed := true }
def FnExactShorterRoadsUptoSaid : Prop := fnExactShorterRoadsUptoRow.holds Try.pinned (OpenSpec.upto fnExactShorterRoadsSpec)

/-- 'laws.FnExactLongestTour', WHERE WHAT IT READS IS OF BULK AT MOST 1048576: true; the input reads as it did. -/
def fnExactLongestTourUptoRow : OpenClaim := { program := "ytmflfealodgdeaa", sum := "9469b6f0d00d1e7e9beb7156d4c87109dcdfecc2a043096311a716447592cb3c", func := "loop.example/g01063/laws.FnExactLongestTour", spec := "fnExactLongestTour", unfollowed := true, recurses := true, apart := false, narrowed := true }
def FnExactLongestTourUptoSaid : Prop := fnExactLongestTourUptoRow.holds Try.pinned (OpenSpec.upto fnExactLongestTourSpec)

/-- 'laws.FnExactTourIncome', WHERE WHAT IT READS IS OF BULK AT MOST 1048576: true; the input reads as it did. -/
def fnExactTourIncomeUptoRow : OpenClaim := { program := "ytmflfealodgdeaa", sum := "9469b6f0d00d1e7e9beb7156d4c87109dcdfecc2a043096311a716447592cb3c", func := "loop.example/g01063/laws.FnExactTourIncome", spec := "fnExactTourIncome", unfollowed := true, recurses := true, apart := false, narrowed := true }
def FnExactTourIncomeUptoSaid : Prop := fnExactTourIncomeUptoRow.holds Try.pinned (OpenSpec.upto fnExactTourIncomeSpec)

/-- 'laws.FnExactWaitingDays', WHERE WHAT IT READS IS OF BULK AT MOST 1048576: true; the input reads as it did. -/
def fnExactWaitingDaysUptoRow : OpenClaim := { program := "ytmflfealodgdeaa", sum := "9469b6f0d00d1e7e9beb7156d4c87109dcdfecc2a043096311a716447592cb3c", func := "loop.example/g01063/laws.FnExactWaitingDays", spec := "fnExactWaitingDays", unfollowed := true, recurses := true, apart := false, narrowed := true }
def FnExactWaitingDaysUptoSaid : Prop := fnExactWaitingDaysUptoRow.holds Try.pinned (OpenSpec.upto fnExactWaitingDaysSpec)

/-- 'laws.FnExactTourDays', WHERE WHAT IT READS IS OF BULK AT MOST 1048576: true; the input reads as it did. -/
def fnExactTourDaysUptoRow : OpenClaim := { program := "ytmflfealodgdeaa", sum := "9469b6f0d00d1e7e9beb7156d4c87109dcdfecc2a043096311a716447592cb3c", func := "loop.example/g01063/laws.FnExactTourDays", spec := "fnExactTourDays", unfollowed := true, recurses := true, apart := false, narrowed := true }
def FnExactTourDaysUptoSaid : Prop := fnExactTourDaysUptoRow.holds Try.pinned (OpenSpec.upto fnExactTourDaysSpec)

/-- 'laws.FnExactBestTour', WHERE WHAT IT READS IS OF BULK AT MOST 1048576: true; the input reads as it did. -/
def fnExactBestTourUptoRow : OpenClaim := { program := "ytmflfealodgdeaa", sum := "9469b6f0d00d1e7e9beb7156d4c87109dcdfecc2a043096311a716447592cb3c", func := "loop.example/g01063/laws.FnExactBestTour", spec := "fnExactBestTour", unfollowed := true, recurses := true, apart := false, narrowed := true }
def FnExactBestTourUptoSaid : Prop := fnExactBestTourUptoRow.holds Try.pinned (OpenSpec.upto fnExactBestTourSpec)

/-- 'laws.FnExactNextHalls', WHERE WHAT IT READS IS OF BULK AT MOST 1048576: true; the input reads as it did. -/
def fnExactNextHallsUptoRow : OpenClaim := { program := "ytmflfealodgdeaa", sum := "9469b6f0d00d1e7e9beb7156d4c87109dcdfecc2a043096311a716447592cb3c", func := "loop.example/g01063/laws.FnExactNextHalls", spec := "fnExactNextHalls", unfollowed := true, recurses := true, apart := false, narrowed := true }
def FnExactNextHallsUptoSaid : Prop := fnExactNextHallsUptoRow.holds Try.pinned (OpenSpec.upto fnExactNextHallsSpec)

/-- 'laws.FnTours', WHERE WHAT IT READS IS OF BULK AT MOST 1048576: true; the input reads as it did. -/
def fnToursUptoRow : OpenClaim := { program := "ytmflfealodgdeaa", sum := "9469b6f0d00d1e7e9beb7156d4c87109dcdfecc2a043096311a716447592cb3c", func := "loop.example/g01063/laws.FnTours", spec := "fnTours", unfollowed := true, recurses := true, apart := false, narrowed := true }
def FnToursUptoSaid : Prop := fnToursUptoRow.holds Try.pinned (OpenSpec.upto fnToursSpec)

/-- 'laws.FnRoads', WHERE WHAT IT READS IS OF BULK AT MOST 1048576: true; the input reads as it did. -/
def fnRoadsUptoRow : OpenClaim := { program := "ytmflfealodgdeaa", sum := "9469b6f0d00d1e7e9beb7156d4c87109dcdfecc2a043096311a716447592cb3c", func := "loop.example/g01063/laws.FnRoads", spec := "fnRoads", unfollowed := true, recurses := true, apart := false, narrowed := true }
def FnRoadsUptoSaid : Prop := fnRoadsUptoRow.holds Try.pinned (OpenSpec.upto fnRoadsSpec)

end Rows
end Go.Proofs.Ytmflfealodgdeaa
