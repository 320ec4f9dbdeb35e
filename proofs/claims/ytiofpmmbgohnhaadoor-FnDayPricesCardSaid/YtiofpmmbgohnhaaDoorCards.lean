/-
  DERIVED. GIVEN WITH THE SEED: THE CARDS: each row of YtiofpmmbgohnhaaDoorRows.lean that lists a variable, with what it lists TIED to the program's text (the seventh form; the later family's looks); each row that meets fmt, with fmt's text TOLD by the authors' own Lean function (tested against real Go, not proved from fmt's source: count such statements apart). THE CARD IS WHAT COUNTS. Prove the row's statement (the work); the ties are given (YtiofpmmbgohnhaaDoorTie.lean); close each card by the builder's one call (the guide's Derived/Test/ToyasCard.lean, 'card_holds'). Laid BY PROGRAM, IN A SANDBOX (cutbox-door.mjs). By AI agents, Wed Nov 11 2026. No macro, syntax, notation, axiom, sorry.
-/
import Derived.Test.YtiofpmmbgohnhaaDoorRows
import GoSem.ClaimSeven
namespace Go.Proofs.YtiofpmmbgohnhaaDoor
namespace Rows

/-- THE TIED CARD OF 'laws.FnLogSums'. -/
def fnLogSumsCard : Claim7 := { stood := { row := fnLogSumsRow, standIns := [], harness := (true, "f90ed208575c7a3e31d90e2a53b5c0b329c76a5de5dcaf2bdace51cf57d3560b"), looks := true }, kinds := [], alts := [], laidByText := true, laidKinds := [.data, .data, .data, .data, .sentinel, .sentinel, .pinned], laidTests := true, laidLooks := .later }
def FnLogSumsCardSaid : Prop := Claim7.holds Tryd.pinned (.plain (OpenSpec.ofChange fnLogSumsSpec)) fnLogSumsCard

/-- THE TIED CARD OF 'laws.FnLogs'. -/
def fnLogsCard : Claim7 := { stood := { row := fnLogsRow, standIns := [], harness := (true, "f90ed208575c7a3e31d90e2a53b5c0b329c76a5de5dcaf2bdace51cf57d3560b"), looks := true }, kinds := [], alts := [], laidByText := true, laidKinds := [.data, .data, .data, .data, .sentinel, .sentinel, .pinned], laidTests := true, laidLooks := .later }
def FnLogsCardSaid : Prop := Claim7.holds Tryd.pinned (.plain (OpenSpec.ofChange fnLogsSpec)) fnLogsCard

/-- THE TIED CARD OF 'laws.FnDayPrices'. -/
def fnDayPricesCard : Claim7 := { stood := { row := fnDayPricesRow, standIns := [], harness := (true, "f90ed208575c7a3e31d90e2a53b5c0b329c76a5de5dcaf2bdace51cf57d3560b"), looks := true }, kinds := [], alts := [], laidByText := true, laidKinds := [.data, .data, .data, .sentinel, .sentinel], laidTests := true, laidLooks := .later }
def FnDayPricesCardSaid : Prop := Claim7.holds Tryd.pinned (.plain (OpenSpec.ofChange fnDayPricesSpec)) fnDayPricesCard

/-- THE TIED CARD OF 'laws.FnTitles'. -/
def fnTitlesCard : Claim7 := { stood := { row := fnTitlesRow, standIns := [], harness := (true, "f90ed208575c7a3e31d90e2a53b5c0b329c76a5de5dcaf2bdace51cf57d3560b"), looks := true }, kinds := [], alts := [], laidByText := true, laidKinds := [.data, .data, .data, .data, .sentinel, .sentinel, .pinned], laidTests := true, laidLooks := .later }
def FnTitlesCardSaid : Prop := Claim7.holds Tryd.pinned (.plain (OpenSpec.ofChange fnTitlesSpec)) fnTitlesCard

/-- THE SECOND FORM's CARD OF 'laws.FnLogSums'. -/
def fnLogSumsUptoCard : Claim7 := { stood := { row := fnLogSumsUptoRow, standIns := [], harness := (true, "f90ed208575c7a3e31d90e2a53b5c0b329c76a5de5dcaf2bdace51cf57d3560b"), looks := true }, kinds := [], alts := [], laidByText := true, laidKinds := [.data, .data, .data, .data, .sentinel, .sentinel, .pinned], laidTests := true, laidLooks := .later }
def FnLogSumsUptoCardSaid : Prop := Claim7.holds Tryd.pinned (.plain (OpenSpec.upto fnLogSumsSpec)) fnLogSumsUptoCard

/-- THE SECOND FORM's CARD OF 'laws.FnLogs'. -/
def fnLogsUptoCard : Claim7 := { stood := { row := fnLogsUptoRow, standIns := [], harness := (true, "f90ed208575c7a3e31d90e2a53b5c0b329c76a5de5dcaf2bdace51cf57d3560b"), looks := true }, kinds := [], alts := [], laidByText := true, laidKinds := [.data, .data, .data, .data, .sentinel, .sentinel, .pinned], laidTests := true, laidLooks := .later }
def FnLogsUptoCardSaid : Prop := Claim7.holds Tryd.pinned (.plain (OpenSpec.upto fnLogsSpec)) fnLogsUptoCard

/-- THE SECOND FORM's CARD OF 'laws.FnDayPrices'. -/
def fnDayPricesUptoCard : Claim7 := { stood := { row := fnDayPricesUptoRow, standIns := [], harness := (true, "f90ed208575c7a3e31d90e2a53b5c0b329c76a5de5dcaf2bdace51cf57d3560b"), looks := true }, kinds := [], alts := [], laidByText := true, laidKinds := [.data, .data, .data, .sentinel, .sentinel], laidTests := true, laidLooks := .later }
def FnDayPricesUptoCardSaid : Prop := Claim7.holds Tryd.pinned (.plain (OpenSpec.upto fnDayPricesSpec)) fnDayPricesUptoCard

/-- THE SECOND FORM's CARD OF 'laws.FnTitles'. -/
def fnTitlesUptoCard : Claim7 := { stood := { row := fnTitlesUptoRow, standIns := [], harness := (true, "f90ed208575c7a3e31d90e2a53b5c0b329c76a5de5dcaf2bdace51cf57d3560b"), looks := true }, kinds := [], alts := [], laidByText := true, laidKinds := [.data, .data, .data, .data, .sentinel, .sentinel, .pinned], laidTests := true, laidLooks := .later }
def FnTitlesUptoCardSaid : Prop := Claim7.holds Tryd.pinned (.plain (OpenSpec.upto fnTitlesSpec)) fnTitlesUptoCard
end Rows
end Go.Proofs.YtiofpmmbgohnhaaDoor
