/-
  DERIVED. GIVEN WITH THE SEED: THE CARDS: each row of YtblbhemfpdgokaaDoorRows.lean that lists a variable, with what it lists TIED to the program's text (the seventh form; the later family's looks); each row that meets fmt, with fmt's text TOLD by the authors' own Lean function (tested against real Go, not proved from fmt's source: count such statements apart). THE CARD IS WHAT COUNTS. Prove the row's statement (the work); the ties are given (YtblbhemfpdgokaaDoorTie.lean); close each card by the builder's one call (the guide's Derived/Test/ToyasCard.lean, 'card_holds'). Laid BY PROGRAM, IN A SANDBOX (cutbox-door.mjs). By AI agents, Wed Nov 11 2026. No macro, syntax, notation, axiom, sorry.
-/
import Derived.Test.YtblbhemfpdgokaaDoorRows
import GoSem.ClaimSeven
namespace Go.Proofs.YtblbhemfpdgokaaDoor
namespace Rows

/-- THE TIED CARD OF 'laws.FnExactTitleText'. -/
def fnExactTitleTextCard : Claim7 := { stood := { row := fnExactTitleTextRow, standIns := [], harness := (true, "1ffbcb144c7066e7da29f164ab588c6a812ed52ab1be6897850a0df3702b7b2f"), looks := false }, kinds := [], alts := [], laidByText := true, laidKinds := [.data, .data, .data], laidTests := true, laidLooks := .later }
def FnExactTitleTextCardSaid : Prop := Claim7.holds Tryd.pinned (.plain (OpenSpec.ofChange fnExactTitleTextSpec)) fnExactTitleTextCard

/-- THE TIED CARD OF 'laws.FnExactStampOf'. -/
def fnExactStampOfCard : Claim7 := { stood := { row := fnExactStampOfRow, standIns := [], harness := (true, "1ffbcb144c7066e7da29f164ab588c6a812ed52ab1be6897850a0df3702b7b2f"), looks := false }, kinds := [], alts := [], laidByText := true, laidKinds := [.data, .data, .data], laidTests := true, laidLooks := .later }
def FnExactStampOfCardSaid : Prop := Claim7.holds Tryd.pinned (.plain (OpenSpec.ofChange fnExactStampOfSpec)) fnExactStampOfCard

/-- THE TIED CARD OF 'laws.FnExactCentsText'. -/
def fnExactCentsTextCard : Claim7 := { stood := { row := fnExactCentsTextRow, standIns := [], harness := (true, "1ffbcb144c7066e7da29f164ab588c6a812ed52ab1be6897850a0df3702b7b2f"), looks := false }, kinds := [], alts := [], laidByText := true, laidKinds := [.data, .data, .data], laidTests := true, laidLooks := .later }
def FnExactCentsTextCardSaid : Prop := Claim7.holds Tryd.pinned (.plain (OpenSpec.ofChange fnExactCentsTextSpec)) fnExactCentsTextCard

/-- THE TIED CARD OF 'laws.FnExactLogOf'. -/
def fnExactLogOfCard : Claim7 := { stood := { row := fnExactLogOfRow, standIns := [], harness := (true, "1ffbcb144c7066e7da29f164ab588c6a812ed52ab1be6897850a0df3702b7b2f"), looks := false }, kinds := [], alts := [], laidByText := true, laidKinds := [.data, .data, .data], laidTests := true, laidLooks := .later }
def FnExactLogOfCardSaid : Prop := Claim7.holds Tryd.pinned (.plain (OpenSpec.ofChange fnExactLogOfSpec)) fnExactLogOfCard

/-- THE SECOND FORM's CARD OF 'laws.FnExactTitleText'. -/
def fnExactTitleTextUptoCard : Claim7 := { stood := { row := fnExactTitleTextUptoRow, standIns := [], harness := (true, "1ffbcb144c7066e7da29f164ab588c6a812ed52ab1be6897850a0df3702b7b2f"), looks := false }, kinds := [], alts := [], laidByText := true, laidKinds := [.data, .data, .data], laidTests := true, laidLooks := .later }
def FnExactTitleTextUptoCardSaid : Prop := Claim7.holds Tryd.pinned (.plain (OpenSpec.upto fnExactTitleTextSpec)) fnExactTitleTextUptoCard

/-- THE SECOND FORM's CARD OF 'laws.FnExactStampOf'. -/
def fnExactStampOfUptoCard : Claim7 := { stood := { row := fnExactStampOfUptoRow, standIns := [], harness := (true, "1ffbcb144c7066e7da29f164ab588c6a812ed52ab1be6897850a0df3702b7b2f"), looks := false }, kinds := [], alts := [], laidByText := true, laidKinds := [.data, .data, .data], laidTests := true, laidLooks := .later }
def FnExactStampOfUptoCardSaid : Prop := Claim7.holds Tryd.pinned (.plain (OpenSpec.upto fnExactStampOfSpec)) fnExactStampOfUptoCard

/-- THE SECOND FORM's CARD OF 'laws.FnExactCentsText'. -/
def fnExactCentsTextUptoCard : Claim7 := { stood := { row := fnExactCentsTextUptoRow, standIns := [], harness := (true, "1ffbcb144c7066e7da29f164ab588c6a812ed52ab1be6897850a0df3702b7b2f"), looks := false }, kinds := [], alts := [], laidByText := true, laidKinds := [.data, .data, .data], laidTests := true, laidLooks := .later }
def FnExactCentsTextUptoCardSaid : Prop := Claim7.holds Tryd.pinned (.plain (OpenSpec.upto fnExactCentsTextSpec)) fnExactCentsTextUptoCard

/-- THE SECOND FORM's CARD OF 'laws.FnExactLogOf'. -/
def fnExactLogOfUptoCard : Claim7 := { stood := { row := fnExactLogOfUptoRow, standIns := [], harness := (true, "1ffbcb144c7066e7da29f164ab588c6a812ed52ab1be6897850a0df3702b7b2f"), looks := false }, kinds := [], alts := [], laidByText := true, laidKinds := [.data, .data, .data], laidTests := true, laidLooks := .later }
def FnExactLogOfUptoCardSaid : Prop := Claim7.holds Tryd.pinned (.plain (OpenSpec.upto fnExactLogOfSpec)) fnExactLogOfUptoCard
end Rows
end Go.Proofs.YtblbhemfpdgokaaDoor
