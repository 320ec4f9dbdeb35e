/-
  No cell of these rows narrows 'for every input' (looked for: loops, veiled, ifaces, maps, wideKeys, modest, calm, conditions, laid).
  DERIVED. THE GIVEN ROWS OF THIS SEAT. 7 by the template 'for every input the law returns true; each argument reads behind the call as it read before'; 0 by the template 'total and deterministic' (their statements: YtlgcehdklpbknaaTotals.lean).
  GIVEN WITH THE SEED: the statements are not yours to turn. If you find one false, say at which input.
  Laid BY PROGRAM, IN A SANDBOX (cutbox-rows.mjs): the forced cells as the released guide's own fill.sh prints them over the translation 44eb9f17eb6b3564… (all of the seat's roots in one cut). By AI agents, Wed Nov 11 2026. No macro, syntax, notation, axiom, sorry.
-/
import Derived.Test.YtlgcehdklpbknaaChecked
import GoSem.Claim
import GoSem.ClaimJoined
import GoSem.ClaimMapViews
import Derived.JoinedTies
import Derived.KernelRfl
namespace Go.Proofs.Ytlgcehdklpbknaa
/- THE CELL 'sum', in the pinned program and in every row, IS THE sha256 OF THE DUMP (.gsa) THAT YtlgcehdklpbknaaProg.lean LOADS. Nothing in Lean hashes anything: it is a label: what it is worth is what the hold of that sum in a sandbox is worth. -/
noncomputable def Try.pinned : Pinned := { name := "ytlgcehdklpbknaa", sum := "44eb9f17eb6b35646320241a6d70fdfa7173f99df262c80fac7065c6067b2f5f", checked := Try.checked }
namespace Rows
def none {H : Type} : Left H := { results := [], args := [] }

/-- 'laws.FnRoads': WHATEVER THE INPUT: true; the input reads as it did. -/
def fnRoadsSpec : ChangeSpec := { name := "fnRoads", fn := fun _ => fun
  | [d1, d2] => { results := [.lit (.bool true)], args := [d1, d2] }
  | _ => none }
def fnRoadsRow : OpenClaim := { program := "ytlgcehdklpbknaa", sum := "44eb9f17eb6b35646320241a6d70fdfa7173f99df262c80fac7065c6067b2f5f", func := "loop.example/g01063/laws.FnRoads", spec := "fnRoads", unfollowed := true, recurses := true, apart := false }
def FnRoadsSaid : Prop := fnRoadsRow.holds Try.pinned (OpenSpec.ofChange fnRoadsSpec)

/-- ITS FALSE NEIGHBOUR: 'it returns false'. Refute it at one input. -/
def fnRoadsWrong : ChangeSpec := { name := "fnRoads", fn := fun _ => fun
  | [d1, d2] => { results := [.lit (.bool false)], args := [d1, d2] }
  | _ => none }
def FnRoadsWrongFalsely : Prop := fnRoadsRow.holds Try.pinned (OpenSpec.ofChange fnRoadsWrong)

/-- 'laws.FnExactShorterRoads': WHATEVER THE INPUT: true; the input reads as it did. -/
def fnExactShorterRoadsSpec : ChangeSpec := { name := "fnExactShorterRoads", fn := fun _ => fun
  | [d] => { results := [.lit (.bool true)], args := [d] }
  | _ => none }
def fnExactShorterRoadsRow : OpenClaim := { program := "ytlgcehdklpbknaa", sum := "44eb9f17eb6b35646320241a6d70fdfa7173f99df262c80fac7065c6067b2f5f", func := "loop.example/g01063/laws.FnExactShorterRoads", spec := "fnExactShorterRoads", unfollowed := true, recurses := true, apart := false }
def FnExactShorterRoadsSaid : Prop := fnExactShorterRoadsRow.holds Try.pinned (OpenSpec.ofChange fnExactShorterRoadsSpec)

/-- ITS FALSE NEIGHBOUR: 'it returns false'. Refute it at one input. -/
def fnExactShorterRoadsWrong : ChangeSpec := { name := "fnExactShorterRoads", fn := fun _ => fun
  | [d] => { results := [.lit (.bool false)], args := [d] }
  | _ => none }
def FnExactShorterRoadsWrongFalsely : Prop := fnExactShorterRoadsRow.holds Try.pinned (OpenSpec.ofChange fnExactShorterRoadsWrong)

/-- 'laws.FnExactAddTitle': WHATEVER THE INPUT: true; the input reads as it did. -/
def fnExactAddTitleSpec : ChangeSpec := { name := "fnExactAddTitle", fn := fun _ => fun
  | [d1, d2] => { results := [.lit (.bool true)], args := [d1, d2] }
  | _ => none }
def fnExactAddTitleRow : OpenClaim := { program := "ytlgcehdklpbknaa", sum := "44eb9f17eb6b35646320241a6d70fdfa7173f99df262c80fac7065c6067b2f5f", func := "loop.example/g01063/laws.FnExactAddTitle", spec := "fnExactAddTitle", inPlace := ["slices.overlaps[loop.example/g01063/impl.Title]"], unfollowed := true, recurses := true, apart := false }
def FnExactAddTitleSaid : Prop := fnExactAddTitleRow.holds Try.pinned (OpenSpec.ofChange fnExactAddTitleSpec)

/-- ITS FALSE NEIGHBOUR: 'it returns false'. Refute it at one input. -/
def fnExactAddTitleWrong : ChangeSpec := { name := "fnExactAddTitle", fn := fun _ => fun
  | [d1, d2] => { results := [.lit (.bool false)], args := [d1, d2] }
  | _ => none }
def FnExactAddTitleWrongFalsely : Prop := fnExactAddTitleRow.holds Try.pinned (OpenSpec.ofChange fnExactAddTitleWrong)

/-- 'laws.FnExactMostAccepted': WHATEVER THE INPUT: true; the input reads as it did. -/
def fnExactMostAcceptedSpec : ChangeSpec := { name := "fnExactMostAccepted", fn := fun _ => fun
  | [d1, d2, d3] => { results := [.lit (.bool true)], args := [d1, d2, d3] }
  | _ => none }
def fnExactMostAcceptedRow : OpenClaim := { program := "ytlgcehdklpbknaa", sum := "44eb9f17eb6b35646320241a6d70fdfa7173f99df262c80fac7065c6067b2f5f", func := "loop.example/g01063/laws.FnExactMostAccepted", spec := "fnExactMostAccepted", unfollowed := true, recurses := true, apart := false }
def FnExactMostAcceptedSaid : Prop := fnExactMostAcceptedRow.holds Try.pinned (OpenSpec.ofChange fnExactMostAcceptedSpec)

/-- ITS FALSE NEIGHBOUR: 'it returns false'. Refute it at one input. -/
def fnExactMostAcceptedWrong : ChangeSpec := { name := "fnExactMostAccepted", fn := fun _ => fun
  | [d1, d2, d3] => { results := [.lit (.bool false)], args := [d1, d2, d3] }
  | _ => none }
def FnExactMostAcceptedWrongFalsely : Prop := fnExactMostAcceptedRow.holds Try.pinned (OpenSpec.ofChange fnExactMostAcceptedWrong)

/-- 'laws.FnAccepted': WHATEVER THE INPUT: true; the input reads as it did. -/
def fnAcceptedSpec : ChangeSpec := { name := "fnAccepted", fn := fun _ => fun
  | [d] => { results := [.lit (.bool true)], args := [d] }
  | _ => none }
def fnAcceptedRow : OpenClaim := { program := "ytlgcehdklpbknaa", sum := "44eb9f17eb6b35646320241a6d70fdfa7173f99df262c80fac7065c6067b2f5f", func := "loop.example/g01063/laws.FnAccepted", spec := "fnAccepted", unfollowed := true, recurses := true, apart := false }
def FnAcceptedSaid : Prop := fnAcceptedRow.holds Try.pinned (OpenSpec.ofChange fnAcceptedSpec)

/-- ITS FALSE NEIGHBOUR: 'it returns false'. Refute it at one input. -/
def fnAcceptedWrong : ChangeSpec := { name := "fnAccepted", fn := fun _ => fun
  | [d] => { results := [.lit (.bool false)], args := [d] }
  | _ => none }
def FnAcceptedWrongFalsely : Prop := fnAcceptedRow.holds Try.pinned (OpenSpec.ofChange fnAcceptedWrong)

/-- 'laws.FnTitleShows': WHATEVER THE INPUT: true; the input reads as it did. -/
def fnTitleShowsSpec : ChangeSpec := { name := "fnTitleShows", fn := fun _ => fun
  | [d1, d2] => { results := [.lit (.bool true)], args := [d1, d2] }
  | _ => none }
def fnTitleShowsRow : OpenClaim := { program := "ytlgcehdklpbknaa", sum := "44eb9f17eb6b35646320241a6d70fdfa7173f99df262c80fac7065c6067b2f5f", func := "loop.example/g01063/laws.FnTitleShows", spec := "fnTitleShows", unfollowed := true, recurses := true, apart := false }
def FnTitleShowsSaid : Prop := fnTitleShowsRow.holds Try.pinned (OpenSpec.ofChange fnTitleShowsSpec)

/-- ITS FALSE NEIGHBOUR: 'it returns false'. Refute it at one input. -/
def fnTitleShowsWrong : ChangeSpec := { name := "fnTitleShows", fn := fun _ => fun
  | [d1, d2] => { results := [.lit (.bool false)], args := [d1, d2] }
  | _ => none }
def FnTitleShowsWrongFalsely : Prop := fnTitleShowsRow.holds Try.pinned (OpenSpec.ofChange fnTitleShowsWrong)

/-- 'laws.FnExactShowWith': WHATEVER THE INPUT: true; the input reads as it did. -/
def fnExactShowWithSpec : ChangeSpec := { name := "fnExactShowWith", fn := fun _ => fun
  | [d1, d2] => { results := [.lit (.bool true)], args := [d1, d2] }
  | _ => none }
def fnExactShowWithRow : OpenClaim := { program := "ytlgcehdklpbknaa", sum := "44eb9f17eb6b35646320241a6d70fdfa7173f99df262c80fac7065c6067b2f5f", func := "loop.example/g01063/laws.FnExactShowWith", spec := "fnExactShowWith", unfollowed := true, recurses := true, apart := false }
def FnExactShowWithSaid : Prop := fnExactShowWithRow.holds Try.pinned (OpenSpec.ofChange fnExactShowWithSpec)

/-- ITS FALSE NEIGHBOUR: 'it returns false'. Refute it at one input. -/
def fnExactShowWithWrong : ChangeSpec := { name := "fnExactShowWith", fn := fun _ => fun
  | [d1, d2] => { results := [.lit (.bool false)], args := [d1, d2] }
  | _ => none }
def FnExactShowWithWrongFalsely : Prop := fnExactShowWithRow.holds Try.pinned (OpenSpec.ofChange fnExactShowWithWrong)

/- THE SECOND FORM. 'bulk': how many values and letters a reading holds, each counted each time it is reached (what is shared counts as often as it is met; a slice's spare places count too). A statement '..UptoSaid' is the law's where the arguments, and the package variables that the reading takes, are together of bulk at most 1048576: NARROWER than '..Said'. Prove '..Said' where nothing that the law and all that it calls make is longer than what came in: it says more and counts as full. Else prove '..UptoSaid'. A law counts once. -/
mutual
def uptoBulk {H : Type} : DataW H → Nat
  | .lit (.string bytes) => bytes.length + 1
  | .lit _ => 1
  | .nil => 1
  | .ptr d => uptoBulk d + 1
  | .slice elems spare => uptoBulkAll elems + uptoBulkAll spare + 1
  | .agg parts => uptoBulkAll parts + 1
  | .iface _ d => uptoBulk d + 1
  | .map entries => uptoBulkEntries entries + 1
  | .held _ => 1
def uptoBulkAll {H : Type} : List (DataW H) → Nat
  | [] => 0
  | d :: r => uptoBulk d + uptoBulkAll r
def uptoBulkEntries {H : Type} : List (Lit × DataW H) → Nat
  | [] => 0
  | x :: r => uptoBulkEntry x + uptoBulkEntries r
def uptoBulkEntry {H : Type} : Lit × DataW H → Nat
  | (.string bytes, d) => bytes.length + uptoBulk d + 1
  | (_, d) => uptoBulk d + 1
 end
def uptoSmall : (H : Type) → List (DataW H) → Bool := fun _ ds => decide (uptoBulkAll ds ≤ 1048576)
def OpenSpec.upto (s : _root_.Go.ChangeSpec) : _root_.Go.OpenSpec := { _root_.Go.OpenSpec.ofChange s with cond := some uptoSmall }

/-- 'laws.FnRoads', WHERE WHAT IT READS IS OF BULK AT MOST 1048576: true; the input reads as it did. -/
def fnRoadsUptoRow : OpenClaim := { program := "ytlgcehdklpbknaa", sum := "44eb9f17eb6b35646320241a6d70fdfa7173f99df262c80fac7065c6067b2f5f", func := "loop.example/g01063/laws.FnRoads", spec := "fnRoads", unfollowed := true, recurses := true, apart := false, narrowed := true }
def FnRoadsUptoSaid : Prop := fnRoadsUptoRow.holds Try.pinned (OpenSpec.upto fnRoadsSpec)

/-- 'laws.FnExactShorterRoads', WHERE WHAT IT READS IS OF BULK AT MOST 1048576: true; the input reads as it did. -/
def fnExactShorterRoadsUptoRow : OpenClaim := { program := "ytlgcehdklpbknaa", sum := "44eb9f17eb6b35646320241a6d70fdfa7173f99df262c80fac7065c6067b2f5f", func := "loop.example/g01063/laws.FnExactShorterRoads", spec := "fnExactShorterRoads", unfollowed := true, recurses := true, apart := false, narrowed := true }
def FnExactShorterRoadsUptoSaid : Prop := fnExactShorterRoadsUptoRow.holds Try.pinned (OpenSpec.upto fnExactShorterRoadsSpec)

/-- 'laws.FnExactAddTitle', WHERE WHAT IT READS IS OF BULK AT MOST 1048576: true; the input reads as it did. -/
def fnExactAddTitleUptoRow : OpenClaim := { program := "ytlgcehdklpbknaa", sum := "44eb9f17eb6b35646320241a6d70fdfa7173f99df262c80fac7065c6067b2f5f", func := "loop.example/g01063/laws.FnExactAddTitle", spec := "fnExactAddTitle", inPlace := ["slices.overlaps[loop.example/g01063/impl.Title]"], unfollowed := true, recurses := true, apart := false, narrowed := true }
def FnExactAddTitleUptoSaid : Prop := fnExactAddTitleUptoRow.holds Try.pinned (OpenSpec.upto fnExactAddTitleSpec)

/-- 'laws.FnExactMostAccepted', WHERE WHAT IT READS IS OF BULK AT MOST 1048576: true; the input reads as it did. -/
def fnExactMostAcceptedUptoRow : OpenClaim := { program := "ytlgcehdklpbknaa", sum := "44eb9f17eb6b35646320241a6d70fdfa7173f99df262c80fac7065c6067b2f5f", func := "loop.example/g01063/laws.FnExactMostAccepted", spec := "fnExactMostAccepted", unfollowed := true, recurses := true, apart := false, narrowed := true }
def FnExactMostAcceptedUptoSaid : Prop := fnExactMostAcceptedUptoRow.holds Try.pinned (OpenSpec.upto fnExactMostAcceptedSpec)

/-- 'laws.FnAccepted', WHERE WHAT IT READS IS OF BULK AT MOST 1048576: true; the input reads as it did. -/
def fnAcceptedUptoRow : OpenClaim := { program := "ytlgcehdklpbknaa", sum := "44eb9f17eb6b35646320241a6d70fdfa7173f99df262c80fac7065c6067b2f5f", func := "loop.example/g01063/laws.FnAccepted", spec := "fnAccepted", unfollowed := true, recurses := true, apart := false, narrowed := true }
def FnAcceptedUptoSaid : Prop := fnAcceptedUptoRow.holds Try.pinned (OpenSpec.upto fnAcceptedSpec)

/-- 'laws.FnTitleShows', WHERE WHAT IT READS IS OF BULK AT MOST 1048576: true; the input reads as it did. -/
def fnTitleShowsUptoRow : OpenClaim := { program := "ytlgcehdklpbknaa", sum := "44eb9f17eb6b35646320241a6d70fdfa7173f99df262c80fac7065c6067b2f5f", func := "loop.example/g01063/laws.FnTitleShows", spec := "fnTitleShows", unfollowed := true, recurses := true, apart := false, narrowed := true }
def FnTitleShowsUptoSaid : Prop := fnTitleShowsUptoRow.holds Try.pinned (OpenSpec.upto fnTitleShowsSpec)

/-- 'laws.FnExactShowWith', WHERE WHAT IT READS IS OF BULK AT MOST 1048576: true; the input reads as it did. -/
def fnExactShowWithUptoRow : OpenClaim := { program := "ytlgcehdklpbknaa", sum := "44eb9f17eb6b35646320241a6d70fdfa7173f99df262c80fac7065c6067b2f5f", func := "loop.example/g01063/laws.FnExactShowWith", spec := "fnExactShowWith", unfollowed := true, recurses := true, apart := false, narrowed := true }
def FnExactShowWithUptoSaid : Prop := fnExactShowWithUptoRow.holds Try.pinned (OpenSpec.upto fnExactShowWithSpec)

end Rows
end Go.Proofs.Ytlgcehdklpbknaa
