/-
  No cell of these rows narrows 'for every input' (looked for: loops, veiled, ifaces, maps, wideKeys, modest, calm, conditions, laid).
  DERIVED. THE GIVEN ROWS OF THIS SEAT. 7 by the template 'for every input the law returns true; each argument reads behind the call as it read before'; 0 by the template 'total and deterministic' (their statements: YthmajipncmodfaaTotals.lean).
  GIVEN WITH THE SEED: the statements are not yours to turn. If you find one false, say at which input.
  Laid BY PROGRAM, IN A SANDBOX (cutbox-rows.mjs): the forced cells as the released guide's own fill.sh prints them over the translation dd03f4d1fa6592ac… (all of the seat's roots in one cut). By AI agents, Wed Nov 11 2026. No macro, syntax, notation, axiom, sorry.
-/
import Derived.Test.YthmajipncmodfaaChecked
import GoSem.Claim
import GoSem.ClaimJoined
import GoSem.ClaimMapViews
import Derived.JoinedTies
import Derived.KernelRfl
namespace Go.Proofs.Ythmajipncmodfaa
/- THE CELL 'sum', in the pinned program and in every row, IS THE sha256 OF THE DUMP (.gsa) THAT YthmajipncmodfaaProg.lean LOADS. Nothing in Lean hashes anything: it is a label: what it is worth is what the hold of that sum in a sandbox is worth. -/
noncomputable def Try.pinned : Pinned := { name := "ythmajipncmodfaa", sum := "dd03f4d1fa6592ac49ceb67073e276a9c38467016d9b092e1a369675b5b0d1dc", checked := Try.checked }
namespace Rows
def none {H : Type} : Left H := { results := [], args := [] }

/-- 'laws.FnExactFindTitle': WHATEVER THE INPUT: true; the input reads as it did. -/
def fnExactFindTitleSpec : ChangeSpec := { name := "fnExactFindTitle", fn := fun _ => fun
  | [d1, d2] => { results := [.lit (.bool true)], args := [d1, d2] }
  | _ => none }
def fnExactFindTitleRow : OpenClaim := { program := "ythmajipncmodfaa", sum := "dd03f4d1fa6592ac49ceb67073e276a9c38467016d9b092e1a369675b5b0d1dc", func := "loop.example/g01063/laws.FnExactFindTitle", spec := "fnExactFindTitle", unfollowed := true, recurses := true, apart := false }
def FnExactFindTitleSaid : Prop := fnExactFindTitleRow.holds Try.pinned (OpenSpec.ofChange fnExactFindTitleSpec)

/-- ITS FALSE NEIGHBOUR: 'it returns false'. Refute it at one input. -/
def fnExactFindTitleWrong : ChangeSpec := { name := "fnExactFindTitle", fn := fun _ => fun
  | [d1, d2] => { results := [.lit (.bool false)], args := [d1, d2] }
  | _ => none }
def FnExactFindTitleWrongFalsely : Prop := fnExactFindTitleRow.holds Try.pinned (OpenSpec.ofChange fnExactFindTitleWrong)

/-- 'laws.FnExactTitlesWith': WHATEVER THE INPUT: true; the input reads as it did. -/
def fnExactTitlesWithSpec : ChangeSpec := { name := "fnExactTitlesWith", fn := fun _ => fun
  | [d1, d2] => { results := [.lit (.bool true)], args := [d1, d2] }
  | _ => none }
def fnExactTitlesWithRow : OpenClaim := { program := "ythmajipncmodfaa", sum := "dd03f4d1fa6592ac49ceb67073e276a9c38467016d9b092e1a369675b5b0d1dc", func := "loop.example/g01063/laws.FnExactTitlesWith", spec := "fnExactTitlesWith", apart := false }
def FnExactTitlesWithSaid : Prop := fnExactTitlesWithRow.holds Try.pinned (OpenSpec.ofChange fnExactTitlesWithSpec)

/-- ITS FALSE NEIGHBOUR: 'it returns false'. Refute it at one input. -/
def fnExactTitlesWithWrong : ChangeSpec := { name := "fnExactTitlesWith", fn := fun _ => fun
  | [d1, d2] => { results := [.lit (.bool false)], args := [d1, d2] }
  | _ => none }
def FnExactTitlesWithWrongFalsely : Prop := fnExactTitlesWithRow.holds Try.pinned (OpenSpec.ofChange fnExactTitlesWithWrong)

/-- 'laws.FnExactMendTitle': WHATEVER THE INPUT: true; the input reads as it did. -/
def fnExactMendTitleSpec : ChangeSpec := { name := "fnExactMendTitle", fn := fun _ => fun
  | [d1, d2] => { results := [.lit (.bool true)], args := [d1, d2] }
  | _ => none }
def fnExactMendTitleRow : OpenClaim := { program := "ythmajipncmodfaa", sum := "dd03f4d1fa6592ac49ceb67073e276a9c38467016d9b092e1a369675b5b0d1dc", func := "loop.example/g01063/laws.FnExactMendTitle", spec := "fnExactMendTitle", unfollowed := true, recurses := true, apart := false }
def FnExactMendTitleSaid : Prop := fnExactMendTitleRow.holds Try.pinned (OpenSpec.ofChange fnExactMendTitleSpec)

/-- ITS FALSE NEIGHBOUR: 'it returns false'. Refute it at one input. -/
def fnExactMendTitleWrong : ChangeSpec := { name := "fnExactMendTitle", fn := fun _ => fun
  | [d1, d2] => { results := [.lit (.bool false)], args := [d1, d2] }
  | _ => none }
def FnExactMendTitleWrongFalsely : Prop := fnExactMendTitleRow.holds Try.pinned (OpenSpec.ofChange fnExactMendTitleWrong)

/-- 'laws.FnExactBreakGlass': WHATEVER THE INPUT: true; the input reads as it did. -/
def fnExactBreakGlassSpec : ChangeSpec := { name := "fnExactBreakGlass", fn := fun _ => fun
  | [d1, d2] => { results := [.lit (.bool true)], args := [d1, d2] }
  | _ => none }
def fnExactBreakGlassRow : OpenClaim := { program := "ythmajipncmodfaa", sum := "dd03f4d1fa6592ac49ceb67073e276a9c38467016d9b092e1a369675b5b0d1dc", func := "loop.example/g01063/laws.FnExactBreakGlass", spec := "fnExactBreakGlass", unfollowed := true, recurses := true, apart := false }
def FnExactBreakGlassSaid : Prop := fnExactBreakGlassRow.holds Try.pinned (OpenSpec.ofChange fnExactBreakGlassSpec)

/-- ITS FALSE NEIGHBOUR: 'it returns false'. Refute it at one input. -/
def fnExactBreakGlassWrong : ChangeSpec := { name := "fnExactBreakGlass", fn := fun _ => fun
  | [d1, d2] => { results := [.lit (.bool false)], args := [d1, d2] }
  | _ => none }
def FnExactBreakGlassWrongFalsely : Prop := fnExactBreakGlassRow.holds Try.pinned (OpenSpec.ofChange fnExactBreakGlassWrong)

/-- 'laws.FnExactAddTitle': WHATEVER THE INPUT: true; the input reads as it did. -/
def fnExactAddTitleSpec : ChangeSpec := { name := "fnExactAddTitle", fn := fun _ => fun
  | [d1, d2] => { results := [.lit (.bool true)], args := [d1, d2] }
  | _ => none }
def fnExactAddTitleRow : OpenClaim := { program := "ythmajipncmodfaa", sum := "dd03f4d1fa6592ac49ceb67073e276a9c38467016d9b092e1a369675b5b0d1dc", func := "loop.example/g01063/laws.FnExactAddTitle", spec := "fnExactAddTitle", inPlace := ["slices.overlaps[loop.example/g01063/impl.Title]"], unfollowed := true, recurses := true, apart := false }
def FnExactAddTitleSaid : Prop := fnExactAddTitleRow.holds Try.pinned (OpenSpec.ofChange fnExactAddTitleSpec)

/-- ITS FALSE NEIGHBOUR: 'it returns false'. Refute it at one input. -/
def fnExactAddTitleWrong : ChangeSpec := { name := "fnExactAddTitle", fn := fun _ => fun
  | [d1, d2] => { results := [.lit (.bool false)], args := [d1, d2] }
  | _ => none }
def FnExactAddTitleWrongFalsely : Prop := fnExactAddTitleRow.holds Try.pinned (OpenSpec.ofChange fnExactAddTitleWrong)

/-- 'laws.FnExactShowWith': WHATEVER THE INPUT: true; the input reads as it did. -/
def fnExactShowWithSpec : ChangeSpec := { name := "fnExactShowWith", fn := fun _ => fun
  | [d1, d2] => { results := [.lit (.bool true)], args := [d1, d2] }
  | _ => none }
def fnExactShowWithRow : OpenClaim := { program := "ythmajipncmodfaa", sum := "dd03f4d1fa6592ac49ceb67073e276a9c38467016d9b092e1a369675b5b0d1dc", func := "loop.example/g01063/laws.FnExactShowWith", spec := "fnExactShowWith", unfollowed := true, recurses := true, apart := false }
def FnExactShowWithSaid : Prop := fnExactShowWithRow.holds Try.pinned (OpenSpec.ofChange fnExactShowWithSpec)

/-- ITS FALSE NEIGHBOUR: 'it returns false'. Refute it at one input. -/
def fnExactShowWithWrong : ChangeSpec := { name := "fnExactShowWith", fn := fun _ => fun
  | [d1, d2] => { results := [.lit (.bool false)], args := [d1, d2] }
  | _ => none }
def FnExactShowWithWrongFalsely : Prop := fnExactShowWithRow.holds Try.pinned (OpenSpec.ofChange fnExactShowWithWrong)

/-- 'laws.FnTitleShows': WHATEVER THE INPUT: true; the input reads as it did. -/
def fnTitleShowsSpec : ChangeSpec := { name := "fnTitleShows", fn := fun _ => fun
  | [d1, d2] => { results := [.lit (.bool true)], args := [d1, d2] }
  | _ => none }
def fnTitleShowsRow : OpenClaim := { program := "ythmajipncmodfaa", sum := "dd03f4d1fa6592ac49ceb67073e276a9c38467016d9b092e1a369675b5b0d1dc", func := "loop.example/g01063/laws.FnTitleShows", spec := "fnTitleShows", unfollowed := true, recurses := true, apart := false }
def FnTitleShowsSaid : Prop := fnTitleShowsRow.holds Try.pinned (OpenSpec.ofChange fnTitleShowsSpec)

/-- ITS FALSE NEIGHBOUR: 'it returns false'. Refute it at one input. -/
def fnTitleShowsWrong : ChangeSpec := { name := "fnTitleShows", fn := fun _ => fun
  | [d1, d2] => { results := [.lit (.bool false)], args := [d1, d2] }
  | _ => none }
def FnTitleShowsWrongFalsely : Prop := fnTitleShowsRow.holds Try.pinned (OpenSpec.ofChange fnTitleShowsWrong)

/- THE SECOND FORM. 'bulk': how many values and letters a reading holds, each counted each time it is reached (what is shared counts as often as it is met; a slice's spare places count too). A statement '..UptoSaid' is the law's where the arguments, and the package variables that the reading takes, are together of bulk at most 1048576: NARROWER than '..Said'. Prove '..Said' where nothing that the law and all that it calls make is longer than what came in: it says more and counts as full. Else prove '..UptoSaid'. A law counts once. -/
mutual
def uptoBulk {H : Type} : DataW H → Nat
  | .lit (.string bytes) => bytes.length + 1
  | .lit _ => 1
  | .nil => 1
  | .ptr d => uptoBulk d + 1
  | .slice elems spare => uptoBulkAll elems + uptoBulkAll spare + 1
  | .agg parts => uptoBulkAll parts + 1
  | .iface _ d => uptoBulk d + 1
  | .map entries => uptoBulkEntries entries + 1
  | .held _ => 1
def uptoBulkAll {H : Type} : List (DataW H) → Nat
  | [] => 0
  | d :: r => uptoBulk d + uptoBulkAll r
def uptoBulkEntries {H : Type} : List (Lit × DataW H) → Nat
  | [] => 0
  | x :: r => uptoBulkEntry x + uptoBulkEntries r
def uptoBulkEntry {H : Type} : Lit × DataW H → Nat
  | (.string bytes, d) => bytes.length + uptoBulk d + 1
  | (_, d) => uptoBulk d + 1
 end
def uptoSmall : (H : Type) → List (DataW H) → Bool := fun _ ds => decide (uptoBulkAll ds ≤ 1048576)
def OpenSpec.upto (s : _root_.Go.ChangeSpec) : _root_.Go.OpenSpec := { _root_.Go.OpenSpec.ofChange s with cond := some uptoSmall }

/-- 'laws.FnExactFindTitle', WHERE WHAT IT READS IS OF BULK AT MOST 1048576: true; the input reads as it did. -/
def fnExactFindTitleUptoRow : OpenClaim := { program := "ythmajipncmodfaa", sum := "dd03f4d1fa6592ac49ceb67073e276a9c38467016d9b092e1a369675b5b0d1dc", func := "loop.example/g01063/laws.FnExactFindTitle", spec := "fnExactFindTitle", unfollowed := true, recurses := true, apart := false, narrowed := true }
def FnExactFindTitleUptoSaid : Prop := fnExactFindTitleUptoRow.holds Try.pinned (OpenSpec.upto fnExactFindTitleSpec)

/-- 'laws.FnExactTitlesWith', WHERE WHAT IT READS IS OF BULK AT MOST 1048576: true; the input reads as it did. -/
def fnExactTitlesWithUptoRow : OpenClaim := { program := "ythmajipncmodfaa", sum := "dd03f4d1fa6592ac49ceb67073e276a9c38467016d9b092e1a369675b5b0d1dc", func := "loop.example/g01063/laws.FnExactTitlesWith", spec := "fnExactTitlesWith", apart := false, narrowed := true }
def FnExactTitlesWithUptoSaid : Prop := fnExactTitlesWithUptoRow.holds Try.pinned (OpenSpec.upto fnExactTitlesWithSpec)

/-- 'laws.FnExactMendTitle', WHERE WHAT IT READS IS OF BULK AT MOST 1048576: true; the input reads as it did. -/
def fnExactMendTitleUptoRow : OpenClaim := { program := "ythmajipncmodfaa", sum := "dd03f4d1fa6592ac49ceb67073e276a9c38467016d9b092e1a369675b5b0d1dc", func := "loop.example/g01063/laws.FnExactMendTitle", spec := "fnExactMendTitle", unfollowed := true, recurses := true, apart := false, narrowed := true }
def FnExactMendTitleUptoSaid : Prop := fnExactMendTitleUptoRow.holds Try.pinned (OpenSpec.upto fnExactMendTitleSpec)

/-- 'laws.FnExactBreakGlass', WHERE WHAT IT READS IS OF BULK AT MOST 1048576: true; the input reads as it did. -/
def fnExactBreakGlassUptoRow : OpenClaim := { program := "ythmajipncmodfaa", sum := "dd03f4d1fa6592ac49ceb67073e276a9c38467016d9b092e1a369675b5b0d1dc", func := "loop.example/g01063/laws.FnExactBreakGlass", spec := "fnExactBreakGlass", unfollowed := true, recurses := true, apart := false, narrowed := true }
def FnExactBreakGlassUptoSaid : Prop := fnExactBreakGlassUptoRow.holds Try.pinned (OpenSpec.upto fnExactBreakGlassSpec)

/-- 'laws.FnExactAddTitle', WHERE WHAT IT READS IS OF BULK AT MOST 1048576: true; the input reads as it did. -/
def fnExactAddTitleUptoRow : OpenClaim := { program := "ythmajipncmodfaa", sum := "dd03f4d1fa6592ac49ceb67073e276a9c38467016d9b092e1a369675b5b0d1dc", func := "loop.example/g01063/laws.FnExactAddTitle", spec := "fnExactAddTitle", inPlace := ["slices.overlaps[loop.example/g01063/impl.Title]"], unfollowed := true, recurses := true, apart := false, narrowed := true }
def FnExactAddTitleUptoSaid : Prop := fnExactAddTitleUptoRow.holds Try.pinned (OpenSpec.upto fnExactAddTitleSpec)

/-- 'laws.FnExactShowWith', WHERE WHAT IT READS IS OF BULK AT MOST 1048576: true; the input reads as it did. -/
def fnExactShowWithUptoRow : OpenClaim := { program := "ythmajipncmodfaa", sum := "dd03f4d1fa6592ac49ceb67073e276a9c38467016d9b092e1a369675b5b0d1dc", func := "loop.example/g01063/laws.FnExactShowWith", spec := "fnExactShowWith", unfollowed := true, recurses := true, apart := false, narrowed := true }
def FnExactShowWithUptoSaid : Prop := fnExactShowWithUptoRow.holds Try.pinned (OpenSpec.upto fnExactShowWithSpec)

/-- 'laws.FnTitleShows', WHERE WHAT IT READS IS OF BULK AT MOST 1048576: true; the input reads as it did. -/
def fnTitleShowsUptoRow : OpenClaim := { program := "ythmajipncmodfaa", sum := "dd03f4d1fa6592ac49ceb67073e276a9c38467016d9b092e1a369675b5b0d1dc", func := "loop.example/g01063/laws.FnTitleShows", spec := "fnTitleShows", unfollowed := true, recurses := true, apart := false, narrowed := true }
def FnTitleShowsUptoSaid : Prop := fnTitleShowsUptoRow.holds Try.pinned (OpenSpec.upto fnTitleShowsSpec)

end Rows
end Go.Proofs.Ythmajipncmodfaa
