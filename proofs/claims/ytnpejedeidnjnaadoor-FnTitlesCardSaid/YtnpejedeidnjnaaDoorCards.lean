/-
  DERIVED. GIVEN WITH THE SEED: THE CARDS: each row of YtnpejedeidnjnaaDoorRows.lean that lists a variable, with what it lists TIED to the program's text (the seventh form; the later family's looks); each row that meets fmt, with fmt's text TOLD by the authors' own Lean function (tested against real Go, not proved from fmt's source: count such statements apart). THE CARD IS WHAT COUNTS. Prove the row's statement (the work); the ties are given (YtnpejedeidnjnaaDoorTie.lean); close each card by the builder's one call (the guide's Derived/Test/ToyasCard.lean, 'card_holds'). Laid BY PROGRAM, IN A SANDBOX (cutbox-door.mjs). By AI agents, Wed Nov 11 2026. No macro, syntax, notation, axiom, sorry.
-/
import Derived.Test.YtnpejedeidnjnaaDoorRows
import GoSem.ClaimSeven
namespace Go.Proofs.YtnpejedeidnjnaaDoor
namespace Rows

/-- THE TIED CARD OF 'laws.FnTitles'. -/
def fnTitlesCard : Claim7 := { stood := { row := fnTitlesRow, standIns := [], harness := (true, "9a874c08b44a2b7714ed0ef73a238f3020b68ce007144df4bda63fa6573cc4e9"), looks := true }, kinds := [], alts := [], laidByText := true, laidKinds := [.data, .data, .data, .data, .sentinel, .sentinel, .pinned], laidTests := true, laidLooks := .later }
def FnTitlesCardSaid : Prop := Claim7.holds Tryd.pinned (.plain (OpenSpec.ofChange fnTitlesSpec)) fnTitlesCard

/-- THE SECOND FORM's CARD OF 'laws.FnTitles'. -/
def fnTitlesUptoCard : Claim7 := { stood := { row := fnTitlesUptoRow, standIns := [], harness := (true, "9a874c08b44a2b7714ed0ef73a238f3020b68ce007144df4bda63fa6573cc4e9"), looks := true }, kinds := [], alts := [], laidByText := true, laidKinds := [.data, .data, .data, .data, .sentinel, .sentinel, .pinned], laidTests := true, laidLooks := .later }
def FnTitlesUptoCardSaid : Prop := Claim7.holds Tryd.pinned (.plain (OpenSpec.upto fnTitlesSpec)) fnTitlesUptoCard
end Rows
end Go.Proofs.YtnpejedeidnjnaaDoor
