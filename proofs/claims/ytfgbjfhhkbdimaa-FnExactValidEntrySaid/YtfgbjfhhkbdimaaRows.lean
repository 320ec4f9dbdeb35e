/-
  No cell of these rows narrows 'for every input' (looked for: loops, veiled, ifaces, maps, wideKeys, modest, calm, conditions, laid).
  DERIVED. THE GIVEN ROWS OF THIS SEAT. 12 by the template 'for every input the law returns true; each argument reads behind the call as it read before'; 0 by the template 'total and deterministic' (their statements: YtfgbjfhhkbdimaaTotals.lean).
  GIVEN WITH THE SEED: the statements are not yours to turn. If you find one false, say at which input.
  Laid BY PROGRAM, IN A SANDBOX (cutbox-rows.mjs): the forced cells as the released guide's own fill.sh prints them over the translation 1896acd2f3664eb1… (all of the seat's roots in one cut). By AI agents, Wed Nov 11 2026. No macro, syntax, notation, axiom, sorry.
-/
import Derived.Test.YtfgbjfhhkbdimaaChecked
import GoSem.Claim
import GoSem.ClaimJoined
import GoSem.ClaimMapViews
import Derived.JoinedTies
import Derived.KernelRfl
namespace Go.Proofs.Ytfgbjfhhkbdimaa
/- THE CELL 'sum', in the pinned program and in every row, IS THE sha256 OF THE DUMP (.gsa) THAT YtfgbjfhhkbdimaaProg.lean LOADS. Nothing in Lean hashes anything: it is a label: what it is worth is what the hold of that sum in a sandbox is worth. -/
noncomputable def Try.pinned : Pinned := { name := "ytfgbjfhhkbdimaa", sum := "1896acd2f3664eb1101ed22c8c7dbbd58c62c565ea3bec8757eea31710965b78", checked := Try.checked }
namespace Rows
def none {H : Type} : Left H := { results := [], args := [] }

/-- 'laws.FnExactSeatsNeeded': WHATEVER THE INPUT: true; the input reads as it did. -/
def fnExactSeatsNeededSpec : ChangeSpec := { name := "fnExactSeatsNeeded", fn := fun _ => fun
  | [d1, d2, d3] => { results := [.lit (.bool true)], args := [d1, d2, d3] }
  | _ => none }
def fnExactSeatsNeededRow : OpenClaim := { program := "ytfgbjfhhkbdimaa", sum := "1896acd2f3664eb1101ed22c8c7dbbd58c62c565ea3bec8757eea31710965b78", func := "loop.example/g01063/laws.FnExactSeatsNeeded", spec := "fnExactSeatsNeeded", apart := false }
def FnExactSeatsNeededSaid : Prop := fnExactSeatsNeededRow.holds Try.pinned (OpenSpec.ofChange fnExactSeatsNeededSpec)

/-- ITS FALSE NEIGHBOUR: 'it returns false'. Refute it at one input. -/
def fnExactSeatsNeededWrong : ChangeSpec := { name := "fnExactSeatsNeeded", fn := fun _ => fun
  | [d1, d2, d3] => { results := [.lit (.bool false)], args := [d1, d2, d3] }
  | _ => none }
def FnExactSeatsNeededWrongFalsely : Prop := fnExactSeatsNeededRow.holds Try.pinned (OpenSpec.ofChange fnExactSeatsNeededWrong)

/-- 'laws.FnExactDeskWords': WHATEVER THE INPUT: true; the input reads as it did. -/
def fnExactDeskWordsSpec : ChangeSpec := { name := "fnExactDeskWords", fn := fun _ => fun
  | [] => { results := [.lit (.bool true)], args := [] }
  | _ => none }
def fnExactDeskWordsRow : OpenClaim := { program := "ytfgbjfhhkbdimaa", sum := "1896acd2f3664eb1101ed22c8c7dbbd58c62c565ea3bec8757eea31710965b78", func := "loop.example/g01063/laws.FnExactDeskWords", spec := "fnExactDeskWords", apart := false }
def FnExactDeskWordsSaid : Prop := fnExactDeskWordsRow.holds Try.pinned (OpenSpec.ofChange fnExactDeskWordsSpec)

/-- ITS FALSE NEIGHBOUR: 'it returns false'. Refute it at one input. -/
def fnExactDeskWordsWrong : ChangeSpec := { name := "fnExactDeskWords", fn := fun _ => fun
  | [] => { results := [.lit (.bool false)], args := [] }
  | _ => none }
def FnExactDeskWordsWrongFalsely : Prop := fnExactDeskWordsRow.holds Try.pinned (OpenSpec.ofChange fnExactDeskWordsWrong)

/-- 'laws.FnExactValidEntry': WHATEVER THE INPUT: true; the input reads as it did. -/
def fnExactValidEntrySpec : ChangeSpec := { name := "fnExactValidEntry", fn := fun _ => fun
  | [d] => { results := [.lit (.bool true)], args := [d] }
  | _ => none }
def fnExactValidEntryRow : OpenClaim := { program := "ytfgbjfhhkbdimaa", sum := "1896acd2f3664eb1101ed22c8c7dbbd58c62c565ea3bec8757eea31710965b78", func := "loop.example/g01063/laws.FnExactValidEntry", spec := "fnExactValidEntry", apart := false }
def FnExactValidEntrySaid : Prop := fnExactValidEntryRow.holds Try.pinned (OpenSpec.ofChange fnExactValidEntrySpec)

/-- ITS FALSE NEIGHBOUR: 'it returns false'. Refute it at one input. -/
def fnExactValidEntryWrong : ChangeSpec := { name := "fnExactValidEntry", fn := fun _ => fun
  | [d] => { results := [.lit (.bool false)], args := [d] }
  | _ => none }
def FnExactValidEntryWrongFalsely : Prop := fnExactValidEntryRow.holds Try.pinned (OpenSpec.ofChange fnExactValidEntryWrong)

/-- 'laws.FnExactValidRates': WHATEVER THE INPUT: true; the input reads as it did. -/
def fnExactValidRatesSpec : ChangeSpec := { name := "fnExactValidRates", fn := fun _ => fun
  | [d] => { results := [.lit (.bool true)], args := [d] }
  | _ => none }
def fnExactValidRatesRow : OpenClaim := { program := "ytfgbjfhhkbdimaa", sum := "1896acd2f3664eb1101ed22c8c7dbbd58c62c565ea3bec8757eea31710965b78", func := "loop.example/g01063/laws.FnExactValidRates", spec := "fnExactValidRates", apart := false }
def FnExactValidRatesSaid : Prop := fnExactValidRatesRow.holds Try.pinned (OpenSpec.ofChange fnExactValidRatesSpec)

/-- ITS FALSE NEIGHBOUR: 'it returns false'. Refute it at one input. -/
def fnExactValidRatesWrong : ChangeSpec := { name := "fnExactValidRates", fn := fun _ => fun
  | [d] => { results := [.lit (.bool false)], args := [d] }
  | _ => none }
def FnExactValidRatesWrongFalsely : Prop := fnExactValidRatesRow.holds Try.pinned (OpenSpec.ofChange fnExactValidRatesWrong)

/-- 'laws.FnExactSameRates': WHATEVER THE INPUT: true; the input reads as it did. -/
def fnExactSameRatesSpec : ChangeSpec := { name := "fnExactSameRates", fn := fun _ => fun
  | [d1, d2] => { results := [.lit (.bool true)], args := [d1, d2] }
  | _ => none }
def fnExactSameRatesRow : OpenClaim := { program := "ytfgbjfhhkbdimaa", sum := "1896acd2f3664eb1101ed22c8c7dbbd58c62c565ea3bec8757eea31710965b78", func := "loop.example/g01063/laws.FnExactSameRates", spec := "fnExactSameRates", apart := false }
def FnExactSameRatesSaid : Prop := fnExactSameRatesRow.holds Try.pinned (OpenSpec.ofChange fnExactSameRatesSpec)

/-- ITS FALSE NEIGHBOUR: 'it returns false'. Refute it at one input. -/
def fnExactSameRatesWrong : ChangeSpec := { name := "fnExactSameRates", fn := fun _ => fun
  | [d1, d2] => { results := [.lit (.bool false)], args := [d1, d2] }
  | _ => none }
def FnExactSameRatesWrongFalsely : Prop := fnExactSameRatesRow.holds Try.pinned (OpenSpec.ofChange fnExactSameRatesWrong)

/-- 'laws.FnExactSameHires': WHATEVER THE INPUT: true; the input reads as it did. -/
def fnExactSameHiresSpec : ChangeSpec := { name := "fnExactSameHires", fn := fun _ => fun
  | [d1, d2] => { results := [.lit (.bool true)], args := [d1, d2] }
  | _ => none }
def fnExactSameHiresRow : OpenClaim := { program := "ytfgbjfhhkbdimaa", sum := "1896acd2f3664eb1101ed22c8c7dbbd58c62c565ea3bec8757eea31710965b78", func := "loop.example/g01063/laws.FnExactSameHires", spec := "fnExactSameHires", apart := false }
def FnExactSameHiresSaid : Prop := fnExactSameHiresRow.holds Try.pinned (OpenSpec.ofChange fnExactSameHiresSpec)

/-- ITS FALSE NEIGHBOUR: 'it returns false'. Refute it at one input. -/
def fnExactSameHiresWrong : ChangeSpec := { name := "fnExactSameHires", fn := fun _ => fun
  | [d1, d2] => { results := [.lit (.bool false)], args := [d1, d2] }
  | _ => none }
def FnExactSameHiresWrongFalsely : Prop := fnExactSameHiresRow.holds Try.pinned (OpenSpec.ofChange fnExactSameHiresWrong)

/-- 'laws.FnExactBestSeatPrice': WHATEVER THE INPUT: true; the input reads as it did. -/
def fnExactBestSeatPriceSpec : ChangeSpec := { name := "fnExactBestSeatPrice", fn := fun _ => fun
  | [d1, d2] => { results := [.lit (.bool true)], args := [d1, d2] }
  | _ => none }
def fnExactBestSeatPriceRow : OpenClaim := { program := "ytfgbjfhhkbdimaa", sum := "1896acd2f3664eb1101ed22c8c7dbbd58c62c565ea3bec8757eea31710965b78", func := "loop.example/g01063/laws.FnExactBestSeatPrice", spec := "fnExactBestSeatPrice", unfollowed := true, recurses := true, apart := false }
def FnExactBestSeatPriceSaid : Prop := fnExactBestSeatPriceRow.holds Try.pinned (OpenSpec.ofChange fnExactBestSeatPriceSpec)

/-- ITS FALSE NEIGHBOUR: 'it returns false'. Refute it at one input. -/
def fnExactBestSeatPriceWrong : ChangeSpec := { name := "fnExactBestSeatPrice", fn := fun _ => fun
  | [d1, d2] => { results := [.lit (.bool false)], args := [d1, d2] }
  | _ => none }
def FnExactBestSeatPriceWrongFalsely : Prop := fnExactBestSeatPriceRow.holds Try.pinned (OpenSpec.ofChange fnExactBestSeatPriceWrong)

/-- 'laws.FnExactValidHires': WHATEVER THE INPUT: true; the input reads as it did. -/
def fnExactValidHiresSpec : ChangeSpec := { name := "fnExactValidHires", fn := fun _ => fun
  | [d1, d2] => { results := [.lit (.bool true)], args := [d1, d2] }
  | _ => none }
def fnExactValidHiresRow : OpenClaim := { program := "ytfgbjfhhkbdimaa", sum := "1896acd2f3664eb1101ed22c8c7dbbd58c62c565ea3bec8757eea31710965b78", func := "loop.example/g01063/laws.FnExactValidHires", spec := "fnExactValidHires", unfollowed := true, recurses := true, apart := false }
def FnExactValidHiresSaid : Prop := fnExactValidHiresRow.holds Try.pinned (OpenSpec.ofChange fnExactValidHiresSpec)

/-- ITS FALSE NEIGHBOUR: 'it returns false'. Refute it at one input. -/
def fnExactValidHiresWrong : ChangeSpec := { name := "fnExactValidHires", fn := fun _ => fun
  | [d1, d2] => { results := [.lit (.bool false)], args := [d1, d2] }
  | _ => none }
def FnExactValidHiresWrongFalsely : Prop := fnExactValidHiresRow.holds Try.pinned (OpenSpec.ofChange fnExactValidHiresWrong)

/-- 'laws.FnExactDaysWithin': WHATEVER THE INPUT: true; the input reads as it did. -/
def fnExactDaysWithinSpec : ChangeSpec := { name := "fnExactDaysWithin", fn := fun _ => fun
  | [d1, d2] => { results := [.lit (.bool true)], args := [d1, d2] }
  | _ => none }
def fnExactDaysWithinRow : OpenClaim := { program := "ytfgbjfhhkbdimaa", sum := "1896acd2f3664eb1101ed22c8c7dbbd58c62c565ea3bec8757eea31710965b78", func := "loop.example/g01063/laws.FnExactDaysWithin", spec := "fnExactDaysWithin", apart := false }
def FnExactDaysWithinSaid : Prop := fnExactDaysWithinRow.holds Try.pinned (OpenSpec.ofChange fnExactDaysWithinSpec)

/-- ITS FALSE NEIGHBOUR: 'it returns false'. Refute it at one input. -/
def fnExactDaysWithinWrong : ChangeSpec := { name := "fnExactDaysWithin", fn := fun _ => fun
  | [d1, d2] => { results := [.lit (.bool false)], args := [d1, d2] }
  | _ => none }
def FnExactDaysWithinWrongFalsely : Prop := fnExactDaysWithinRow.holds Try.pinned (OpenSpec.ofChange fnExactDaysWithinWrong)

/-- 'laws.FnExactPriceForDays': WHATEVER THE INPUT: true; the input reads as it did. -/
def fnExactPriceForDaysSpec : ChangeSpec := { name := "fnExactPriceForDays", fn := fun _ => fun
  | [d1, d2] => { results := [.lit (.bool true)], args := [d1, d2] }
  | _ => none }
def fnExactPriceForDaysRow : OpenClaim := { program := "ytfgbjfhhkbdimaa", sum := "1896acd2f3664eb1101ed22c8c7dbbd58c62c565ea3bec8757eea31710965b78", func := "loop.example/g01063/laws.FnExactPriceForDays", spec := "fnExactPriceForDays", apart := false }
def FnExactPriceForDaysSaid : Prop := fnExactPriceForDaysRow.holds Try.pinned (OpenSpec.ofChange fnExactPriceForDaysSpec)

/-- ITS FALSE NEIGHBOUR: 'it returns false'. Refute it at one input. -/
def fnExactPriceForDaysWrong : ChangeSpec := { name := "fnExactPriceForDays", fn := fun _ => fun
  | [d1, d2] => { results := [.lit (.bool false)], args := [d1, d2] }
  | _ => none }
def FnExactPriceForDaysWrongFalsely : Prop := fnExactPriceForDaysRow.holds Try.pinned (OpenSpec.ofChange fnExactPriceForDaysWrong)

/-- 'laws.FnExactSplitIncome': WHATEVER THE INPUT: true; the input reads as it did. -/
def fnExactSplitIncomeSpec : ChangeSpec := { name := "fnExactSplitIncome", fn := fun _ => fun
  | [d1, d2] => { results := [.lit (.bool true)], args := [d1, d2] }
  | _ => none }
def fnExactSplitIncomeRow : OpenClaim := { program := "ytfgbjfhhkbdimaa", sum := "1896acd2f3664eb1101ed22c8c7dbbd58c62c565ea3bec8757eea31710965b78", func := "loop.example/g01063/laws.FnExactSplitIncome", spec := "fnExactSplitIncome", unfollowed := true, recurses := true, apart := false }
def FnExactSplitIncomeSaid : Prop := fnExactSplitIncomeRow.holds Try.pinned (OpenSpec.ofChange fnExactSplitIncomeSpec)

/-- ITS FALSE NEIGHBOUR: 'it returns false'. Refute it at one input. -/
def fnExactSplitIncomeWrong : ChangeSpec := { name := "fnExactSplitIncome", fn := fun _ => fun
  | [d1, d2] => { results := [.lit (.bool false)], args := [d1, d2] }
  | _ => none }
def FnExactSplitIncomeWrongFalsely : Prop := fnExactSplitIncomeRow.holds Try.pinned (OpenSpec.ofChange fnExactSplitIncomeWrong)

/-- 'laws.FnExactCheapestFor': WHATEVER THE INPUT: true; the input reads as it did. -/
def fnExactCheapestForSpec : ChangeSpec := { name := "fnExactCheapestFor", fn := fun _ => fun
  | [d1, d2] => { results := [.lit (.bool true)], args := [d1, d2] }
  | _ => none }
def fnExactCheapestForRow : OpenClaim := { program := "ytfgbjfhhkbdimaa", sum := "1896acd2f3664eb1101ed22c8c7dbbd58c62c565ea3bec8757eea31710965b78", func := "loop.example/g01063/laws.FnExactCheapestFor", spec := "fnExactCheapestFor", apart := false }
def FnExactCheapestForSaid : Prop := fnExactCheapestForRow.holds Try.pinned (OpenSpec.ofChange fnExactCheapestForSpec)

/-- ITS FALSE NEIGHBOUR: 'it returns false'. Refute it at one input. -/
def fnExactCheapestForWrong : ChangeSpec := { name := "fnExactCheapestFor", fn := fun _ => fun
  | [d1, d2] => { results := [.lit (.bool false)], args := [d1, d2] }
  | _ => none }
def FnExactCheapestForWrongFalsely : Prop := fnExactCheapestForRow.holds Try.pinned (OpenSpec.ofChange fnExactCheapestForWrong)

/- THE SECOND FORM. 'bulk': how many values and letters a reading holds, each counted each time it is reached (what is shared counts as often as it is met; a slice's spare places count too). A statement '..UptoSaid' is the law's where the arguments, and the package variables that the reading takes, are together of bulk at most 1048576: NARROWER than '..Said'. Prove '..Said' where nothing that the law and all that it calls make is longer than what came in: it says more and counts as full. Else prove '..UptoSaid'. A law counts once. -/
mutual
def uptoBulk {H : Type} : DataW H → Nat
  | .lit (.string bytes) => bytes.length + 1
  | .lit _ => 1
  | .nil => 1
  | .ptr d => uptoBulk d + 1
  | .slice elems spare => uptoBulkAll elems + uptoBulkAll spare + 1
  | .agg parts => uptoBulkAll parts + 1
  | .iface _ d => uptoBulk d + 1
  | .map entries => uptoBulkEntries entries + 1
  | .held _ => 1
def uptoBulkAll {H : Type} : List (DataW H) → Nat
  | [] => 0
  | d :: r => uptoBulk d + uptoBulkAll r
def uptoBulkEntries {H : Type} : List (Lit × DataW H) → Nat
  | [] => 0
  | x :: r => uptoBulkEntry x + uptoBulkEntries r
def uptoBulkEntry {H : Type} : Lit × DataW H → Nat
  | (.string bytes, d) => bytes.length + uptoBulk d + 1
  | (_, d) => uptoBulk d + 1
 end
def uptoSmall : (H : Type) → List (DataW H) → Bool := fun _ ds => decide (uptoBulkAll ds ≤ 1048576)
def OpenSpec.upto (s : _root_.Go.ChangeSpec) : _root_.Go.OpenSpec := { _root_.Go.OpenSpec.ofChange s with cond := some uptoSmall }

/-- 'laws.FnExactSeatsNeeded', WHERE WHAT IT READS IS OF BULK AT MOST 1048576: true; the input reads as it did. -/
def fnExactSeatsNeededUptoRow : OpenClaim := { program := "ytfgbjfhhkbdimaa", sum := "1896acd2f3664eb1101ed22c8c7dbbd58c62c565ea3bec8757eea31710965b78", func := "loop.example/g01063/laws.FnExactSeatsNeeded", spec := "fnExactSeatsNeeded", apart := false, narrowed := true }
def FnExactSeatsNeededUptoSaid : Prop := fnExactSeatsNeededUptoRow.holds Try.pinned (OpenSpec.upto fnExactSeatsNeededSpec)

/-- 'laws.FnExactDeskWords', WHERE WHAT IT READS IS OF BULK AT MOST 1048576: true; the input reads as it did. -/
def fnExactDeskWordsUptoRow : OpenClaim := { program := "ytfgbjfhhkbdimaa", sum := "1896acd2f3664eb1101ed22c8c7dbbd58c62c565ea3bec8757eea31710965b78", func := "loop.example/g01063/laws.FnExactDeskWords", spec := "fnExactDeskWords", apart := false, narrowed := true }
def FnExactDeskWordsUptoSaid : Prop := fnExactDeskWordsUptoRow.holds Try.pinned (OpenSpec.upto fnExactDeskWordsSpec)

/-- 'laws.FnExactValidEntry', WHERE WHAT IT READS IS OF BULK AT MOST 1048576: true; the input reads as it did. -/
def fnExactValidEntryUptoRow : OpenClaim := { program := "ytfgbjfhhkbdimaa", sum := "1896acd2f3664eb1101ed22c8c7dbbd58c62c565ea3bec8757eea31710965b78", func := "loop.example/g01063/laws.FnExactValidEntry", spec := "fnExactValidEntry", apart := false, narrowed := true }
def FnExactValidEntryUptoSaid : Prop := fnExactValidEntryUptoRow.holds Try.pinned (OpenSpec.upto fnExactValidEntrySpec)

/-- 'laws.FnExactValidRates', WHERE WHAT IT READS IS OF BULK AT MOST 1048576: true; the input reads as it did. -/
def fnExactValidRatesUptoRow : OpenClaim := { program := "ytfgbjfhhkbdimaa", sum := "1896acd2f3664eb1101ed22c8c7dbbd58c62c565ea3bec8757eea31710965b78", func := "loop.example/g01063/laws.FnExactValidRates", spec := "fnExactValidRates", apart := false, narrowed := true }
def FnExactValidRatesUptoSaid : Prop := fnExactValidRatesUptoRow.holds Try.pinned (OpenSpec.upto fnExactValidRatesSpec)

/-- 'laws.FnExactSameRates', WHERE WHAT IT READS IS OF BULK AT MOST 1048576: true; the input reads as it did. -/
def fnExactSameRatesUptoRow : OpenClaim := { program := "ytfgbjfhhkbdimaa", sum := "1896acd2f3664eb1101ed22c8c7dbbd58c62c565ea3bec8757eea31710965b78", func := "loop.example/g01063/laws.FnExactSameRates", spec := "fnExactSameRates", apart := false, narrowed := true }
def FnExactSameRatesUptoSaid : Prop := fnExactSameRatesUptoRow.holds Try.pinned (OpenSpec.upto fnExactSameRatesSpec)

/-- 'laws.FnExactSameHires', WHERE WHAT IT READS IS OF BULK AT MOST 1048576: true; the input reads as it did. -/
def fnExactSameHiresUptoRow : OpenClaim := { program := "ytfgbjfhhkbdimaa", sum := "1896acd2f3664eb1101ed22c8c7dbbd58c62c565ea3bec8757eea31710965b78", func := "loop.example/g01063/laws.FnExactSameHires", spec := "fnExactSameHires", apart := false, narrowed := true }
def FnExactSameHiresUptoSaid : Prop := fnExactSameHiresUptoRow.holds Try.pinned (OpenSpec.upto fnExactSameHiresSpec)

/-- 'laws.FnExactBestSeatPrice', WHERE WHAT IT READS IS OF BULK AT MOST 1048576: true; the input reads as it did. -/
def fnExactBestSeatPriceUptoRow : OpenClaim := { program := "ytfgbjfhhkbdimaa", sum := "1896acd2f3664eb1101ed22c8c7dbbd58c62c565ea3bec8757eea31710965b78", func := "loop.example/g01063/laws.FnExactBestSeatPrice", spec := "fnExactBestSeatPrice", unfollowed := true, recurses := true, apart := false, narrowed := true }
def FnExactBestSeatPriceUptoSaid : Prop := fnExactBestSeatPriceUptoRow.holds Try.pinned (OpenSpec.upto fnExactBestSeatPriceSpec)

/-- 'laws.FnExactValidHires', WHERE WHAT IT READS IS OF BULK AT MOST 1048576: true; the input reads as it did. -/
def fnExactValidHiresUptoRow : OpenClaim := { program := "ytfgbjfhhkbdimaa", sum := "1896acd2f3664eb1101ed22c8c7dbbd58c62c565ea3bec8757eea31710965b78", func := "loop.example/g01063/laws.FnExactValidHires", spec := "fnExactValidHires", unfollowed := true, recurses := true, apart := false, narrowed := true }
def FnExactValidHiresUptoSaid : Prop := fnExactValidHiresUptoRow.holds Try.pinned (OpenSpec.upto fnExactValidHiresSpec)

/-- 'laws.FnExactDaysWithin', WHERE WHAT IT READS IS OF BULK AT MOST 1048576: true; the input reads as it did. -/
def fnExactDaysWithinUptoRow : OpenClaim := { program := "ytfgbjfhhkbdimaa", sum := "1896acd2f3664eb1101ed22c8c7dbbd58c62c565ea3bec8757eea31710965b78", func := "loop.example/g01063/laws.FnExactDaysWithin", spec := "fnExactDaysWithin", apart := false, narrowed := true }
def FnExactDaysWithinUptoSaid : Prop := fnExactDaysWithinUptoRow.holds Try.pinned (OpenSpec.upto fnExactDaysWithinSpec)

/-- 'laws.FnExactPriceForDays', WHERE WHAT IT READS IS OF BULK AT MOST 1048576: true; the input reads as it did. -/
def fnExactPriceForDaysUptoRow : OpenClaim := { program := "ytfgbjfhhkbdimaa", sum := "1896acd2f3664eb1101ed22c8c7dbbd58c62c565ea3bec8757eea31710965b78", func := "loop.example/g01063/laws.FnExactPriceForDays", spec := "fnExactPriceForDays", apart := false, narrowed := true }
def FnExactPriceForDaysUptoSaid : Prop := fnExactPriceForDaysUptoRow.holds Try.pinned (OpenSpec.upto fnExactPriceForDaysSpec)

/-- 'laws.FnExactSplitIncome', WHERE WHAT IT READS IS OF BULK AT MOST 1048576: true; the input reads as it did. -/
def fnExactSplitIncomeUptoRow : OpenClaim := { program := "ytfgbjfhhkbdimaa", sum := "1896acd2f3664eb1101ed22c8c7dbbd58c62c565ea3bec8757eea31710965b78", func := "loop.example/g01063/laws.FnExactSplitIncome", spec := "fnExactSplitIncome", unfollowed := true, recurses := true, apart := false, narrowed := true }
def FnExactSplitIncomeUptoSaid : Prop := fnExactSplitIncomeUptoRow.holds Try.pinned (OpenSpec.upto fnExactSplitIncomeSpec)

/-- 'laws.FnExactCheapestFor', WHERE WHAT IT READS IS OF BULK AT MOST 1048576: true; the input reads as it did. -/
def fnExactCheapestForUptoRow : OpenClaim := { program := "ytfgbjfhhkbdimaa", sum := "1896acd2f3664eb1101ed22c8c7dbbd58c62c565ea3bec8757eea31710965b78", func := "loop.example/g01063/laws.FnExactCheapestFor", spec := "fnExactCheapestFor", apart := false, narrowed := true }
def FnExactCheapestForUptoSaid : Prop := fnExactCheapestForUptoRow.holds Try.pinned (OpenSpec.upto fnExactCheapestForSpec)

end Rows
end Go.Proofs.Ytfgbjfhhkbdimaa
