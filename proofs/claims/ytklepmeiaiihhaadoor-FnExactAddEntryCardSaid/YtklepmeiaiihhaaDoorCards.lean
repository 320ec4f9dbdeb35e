/-
  DERIVED. GIVEN WITH THE SEED: THE CARDS: each row of YtklepmeiaiihhaaDoorRows.lean that lists a variable, with what it lists TIED to the program's text (the seventh form; the later family's looks); each row that meets fmt, with fmt's text TOLD by the authors' own Lean function (tested against real Go, not proved from fmt's source: count such statements apart). THE CARD IS WHAT COUNTS. Prove the row's statement (the work); the ties are given (YtklepmeiaiihhaaDoorTie.lean); close each card by the builder's one call (the guide's Derived/Test/ToyasCard.lean, 'card_holds'). Laid BY PROGRAM, IN A SANDBOX (cutbox-door.mjs). By AI agents, Wed Nov 11 2026. No macro, syntax, notation, axiom, sorry.
-/
import Derived.Test.YtklepmeiaiihhaaDoorRows
import GoSem.ClaimSeven
namespace Go.Proofs.YtklepmeiaiihhaaDoor
namespace Rows

/-- THE TIED CARD OF 'laws.FnExactReadCents'. -/
def fnExactReadCentsCard : Claim7 := { stood := { row := fnExactReadCentsRow, standIns := [], harness := (true, "cad162f2fb7c6987ee8796d94f4df9a62a78870c902132eccfca9d12c781300c"), looks := true }, kinds := [], alts := [], laidByText := true, laidKinds := [.data, .data, .data, .sentinel, .sentinel], laidTests := true, laidLooks := .later }
def FnExactReadCentsCardSaid : Prop := Claim7.holds Tryd.pinned (.plain (OpenSpec.ofChange fnExactReadCentsSpec)) fnExactReadCentsCard

/-- THE TIED CARD OF 'laws.FnExactReadTitle'. -/
def fnExactReadTitleCard : Claim7 := { stood := { row := fnExactReadTitleRow, standIns := [], harness := (true, "cad162f2fb7c6987ee8796d94f4df9a62a78870c902132eccfca9d12c781300c"), looks := true }, kinds := [], alts := [], laidByText := true, laidKinds := [.data, .data, .data, .data, .sentinel, .sentinel, .pinned], laidTests := true, laidLooks := .later }
def FnExactReadTitleCardSaid : Prop := Claim7.holds Tryd.pinned (.plain (OpenSpec.ofChange fnExactReadTitleSpec)) fnExactReadTitleCard

/-- THE TIED CARD OF 'laws.FnExactCheckLog'. -/
def fnExactCheckLogCard : Claim7 := { stood := { row := fnExactCheckLogRow, standIns := [], harness := (true, "cad162f2fb7c6987ee8796d94f4df9a62a78870c902132eccfca9d12c781300c"), looks := true }, kinds := [], alts := [], laidByText := true, laidKinds := [.data, .data, .data, .data, .sentinel, .sentinel, .pinned], laidTests := true, laidLooks := .later }
def FnExactCheckLogCardSaid : Prop := Claim7.holds Tryd.pinned (.plain (OpenSpec.ofChange fnExactCheckLogSpec)) fnExactCheckLogCard

/-- THE TIED CARD OF 'laws.FnExactRecoverLog'. -/
def fnExactRecoverLogCard : Claim7 := { stood := { row := fnExactRecoverLogRow, standIns := [], harness := (true, "cad162f2fb7c6987ee8796d94f4df9a62a78870c902132eccfca9d12c781300c"), looks := true }, kinds := [], alts := [], laidByText := true, laidKinds := [.data, .data, .data, .data, .sentinel, .sentinel, .pinned], laidTests := true, laidLooks := .later }
def FnExactRecoverLogCardSaid : Prop := Claim7.holds Tryd.pinned (.plain (OpenSpec.ofChange fnExactRecoverLogSpec)) fnExactRecoverLogCard

/-- THE TIED CARD OF 'laws.FnExactValuesOf'. -/
def fnExactValuesOfCard : Claim7 := { stood := { row := fnExactValuesOfRow, standIns := [], harness := (true, "cad162f2fb7c6987ee8796d94f4df9a62a78870c902132eccfca9d12c781300c"), looks := true }, kinds := [], alts := [], laidByText := true, laidKinds := [.data, .data, .data, .data, .sentinel, .sentinel, .pinned], laidTests := true, laidLooks := .later }
def FnExactValuesOfCardSaid : Prop := Claim7.holds Tryd.pinned (.plain (OpenSpec.ofChange fnExactValuesOfSpec)) fnExactValuesOfCard

/-- THE TIED CARD OF 'laws.FnExactEntriesOf'. -/
def fnExactEntriesOfCard : Claim7 := { stood := { row := fnExactEntriesOfRow, standIns := [], harness := (true, "cad162f2fb7c6987ee8796d94f4df9a62a78870c902132eccfca9d12c781300c"), looks := true }, kinds := [], alts := [], laidByText := true, laidKinds := [.data, .data, .data, .data, .sentinel, .sentinel, .pinned], laidTests := true, laidLooks := .later }
def FnExactEntriesOfCardSaid : Prop := Claim7.holds Tryd.pinned (.plain (OpenSpec.ofChange fnExactEntriesOfSpec)) fnExactEntriesOfCard

/-- THE TIED CARD OF 'laws.FnExactNamesIn'. -/
def fnExactNamesInCard : Claim7 := { stood := { row := fnExactNamesInRow, standIns := [], harness := (true, "cad162f2fb7c6987ee8796d94f4df9a62a78870c902132eccfca9d12c781300c"), looks := true }, kinds := [], alts := [], laidByText := true, laidKinds := [.data, .data, .data, .data, .sentinel, .sentinel, .pinned], laidTests := true, laidLooks := .later }
def FnExactNamesInCardSaid : Prop := Claim7.holds Tryd.pinned (.plain (OpenSpec.ofChange fnExactNamesInSpec)) fnExactNamesInCard

/-- THE TIED CARD OF 'laws.FnExactSumOfWhat'. -/
def fnExactSumOfWhatCard : Claim7 := { stood := { row := fnExactSumOfWhatRow, standIns := [], harness := (true, "cad162f2fb7c6987ee8796d94f4df9a62a78870c902132eccfca9d12c781300c"), looks := true }, kinds := [], alts := [], laidByText := true, laidKinds := [.data, .data, .data, .data, .sentinel, .sentinel, .pinned], laidTests := true, laidLooks := .later }
def FnExactSumOfWhatCardSaid : Prop := Claim7.holds Tryd.pinned (.plain (OpenSpec.ofChange fnExactSumOfWhatSpec)) fnExactSumOfWhatCard

/-- THE TIED CARD OF 'laws.FnExactAddEntry'. -/
def fnExactAddEntryCard : Claim7 := { stood := { row := fnExactAddEntryRow, standIns := [], harness := (true, "cad162f2fb7c6987ee8796d94f4df9a62a78870c902132eccfca9d12c781300c"), looks := true }, kinds := [], alts := [], laidByText := true, laidKinds := [.data, .data, .data, .data, .sentinel, .sentinel, .pinned], laidTests := true, laidLooks := .later }
def FnExactAddEntryCardSaid : Prop := Claim7.holds Tryd.pinned (.plain (OpenSpec.ofChange fnExactAddEntrySpec)) fnExactAddEntryCard

/-- THE SECOND FORM's CARD OF 'laws.FnExactReadCents'. -/
def fnExactReadCentsUptoCard : Claim7 := { stood := { row := fnExactReadCentsUptoRow, standIns := [], harness := (true, "cad162f2fb7c6987ee8796d94f4df9a62a78870c902132eccfca9d12c781300c"), looks := true }, kinds := [], alts := [], laidByText := true, laidKinds := [.data, .data, .data, .sentinel, .sentinel], laidTests := true, laidLooks := .later }
def FnExactReadCentsUptoCardSaid : Prop := Claim7.holds Tryd.pinned (.plain (OpenSpec.upto fnExactReadCentsSpec)) fnExactReadCentsUptoCard

/-- THE SECOND FORM's CARD OF 'laws.FnExactReadTitle'. -/
def fnExactReadTitleUptoCard : Claim7 := { stood := { row := fnExactReadTitleUptoRow, standIns := [], harness := (true, "cad162f2fb7c6987ee8796d94f4df9a62a78870c902132eccfca9d12c781300c"), looks := true }, kinds := [], alts := [], laidByText := true, laidKinds := [.data, .data, .data, .data, .sentinel, .sentinel, .pinned], laidTests := true, laidLooks := .later }
def FnExactReadTitleUptoCardSaid : Prop := Claim7.holds Tryd.pinned (.plain (OpenSpec.upto fnExactReadTitleSpec)) fnExactReadTitleUptoCard

/-- THE SECOND FORM's CARD OF 'laws.FnExactCheckLog'. -/
def fnExactCheckLogUptoCard : Claim7 := { stood := { row := fnExactCheckLogUptoRow, standIns := [], harness := (true, "cad162f2fb7c6987ee8796d94f4df9a62a78870c902132eccfca9d12c781300c"), looks := true }, kinds := [], alts := [], laidByText := true, laidKinds := [.data, .data, .data, .data, .sentinel, .sentinel, .pinned], laidTests := true, laidLooks := .later }
def FnExactCheckLogUptoCardSaid : Prop := Claim7.holds Tryd.pinned (.plain (OpenSpec.upto fnExactCheckLogSpec)) fnExactCheckLogUptoCard

/-- THE SECOND FORM's CARD OF 'laws.FnExactRecoverLog'. -/
def fnExactRecoverLogUptoCard : Claim7 := { stood := { row := fnExactRecoverLogUptoRow, standIns := [], harness := (true, "cad162f2fb7c6987ee8796d94f4df9a62a78870c902132eccfca9d12c781300c"), looks := true }, kinds := [], alts := [], laidByText := true, laidKinds := [.data, .data, .data, .data, .sentinel, .sentinel, .pinned], laidTests := true, laidLooks := .later }
def FnExactRecoverLogUptoCardSaid : Prop := Claim7.holds Tryd.pinned (.plain (OpenSpec.upto fnExactRecoverLogSpec)) fnExactRecoverLogUptoCard

/-- THE SECOND FORM's CARD OF 'laws.FnExactValuesOf'. -/
def fnExactValuesOfUptoCard : Claim7 := { stood := { row := fnExactValuesOfUptoRow, standIns := [], harness := (true, "cad162f2fb7c6987ee8796d94f4df9a62a78870c902132eccfca9d12c781300c"), looks := true }, kinds := [], alts := [], laidByText := true, laidKinds := [.data, .data, .data, .data, .sentinel, .sentinel, .pinned], laidTests := true, laidLooks := .later }
def FnExactValuesOfUptoCardSaid : Prop := Claim7.holds Tryd.pinned (.plain (OpenSpec.upto fnExactValuesOfSpec)) fnExactValuesOfUptoCard

/-- THE SECOND FORM's CARD OF 'laws.FnExactEntriesOf'. -/
def fnExactEntriesOfUptoCard : Claim7 := { stood := { row := fnExactEntriesOfUptoRow, standIns := [], harness := (true, "cad162f2fb7c6987ee8796d94f4df9a62a78870c902132eccfca9d12c781300c"), looks := true }, kinds := [], alts := [], laidByText := true, laidKinds := [.data, .data, .data, .data, .sentinel, .sentinel, .pinned], laidTests := true, laidLooks := .later }
def FnExactEntriesOfUptoCardSaid : Prop := Claim7.holds Tryd.pinned (.plain (OpenSpec.upto fnExactEntriesOfSpec)) fnExactEntriesOfUptoCard

/-- THE SECOND FORM's CARD OF 'laws.FnExactNamesIn'. -/
def fnExactNamesInUptoCard : Claim7 := { stood := { row := fnExactNamesInUptoRow, standIns := [], harness := (true, "cad162f2fb7c6987ee8796d94f4df9a62a78870c902132eccfca9d12c781300c"), looks := true }, kinds := [], alts := [], laidByText := true, laidKinds := [.data, .data, .data, .data, .sentinel, .sentinel, .pinned], laidTests := true, laidLooks := .later }
def FnExactNamesInUptoCardSaid : Prop := Claim7.holds Tryd.pinned (.plain (OpenSpec.upto fnExactNamesInSpec)) fnExactNamesInUptoCard

/-- THE SECOND FORM's CARD OF 'laws.FnExactSumOfWhat'. -/
def fnExactSumOfWhatUptoCard : Claim7 := { stood := { row := fnExactSumOfWhatUptoRow, standIns := [], harness := (true, "cad162f2fb7c6987ee8796d94f4df9a62a78870c902132eccfca9d12c781300c"), looks := true }, kinds := [], alts := [], laidByText := true, laidKinds := [.data, .data, .data, .data, .sentinel, .sentinel, .pinned], laidTests := true, laidLooks := .later }
def FnExactSumOfWhatUptoCardSaid : Prop := Claim7.holds Tryd.pinned (.plain (OpenSpec.upto fnExactSumOfWhatSpec)) fnExactSumOfWhatUptoCard

/-- THE SECOND FORM's CARD OF 'laws.FnExactAddEntry'. -/
def fnExactAddEntryUptoCard : Claim7 := { stood := { row := fnExactAddEntryUptoRow, standIns := [], harness := (true, "cad162f2fb7c6987ee8796d94f4df9a62a78870c902132eccfca9d12c781300c"), looks := true }, kinds := [], alts := [], laidByText := true, laidKinds := [.data, .data, .data, .data, .sentinel, .sentinel, .pinned], laidTests := true, laidLooks := .later }
def FnExactAddEntryUptoCardSaid : Prop := Claim7.holds Tryd.pinned (.plain (OpenSpec.upto fnExactAddEntrySpec)) fnExactAddEntryUptoCard
end Rows
end Go.Proofs.YtklepmeiaiihhaaDoor
