/-
  DERIVED. GIVEN WITH THE SEED: THE CARDS: each row of YthoicbafdanmkaaGreatDoorRows.lean that lists a variable, with what it lists TIED to the program's text (the seventh form; the later family's looks); each row that meets fmt, with fmt's text TOLD by the authors' own Lean function (tested against real Go, not proved from fmt's source: count such statements apart). THE CARD IS WHAT COUNTS. Prove the row's statement (the work); the ties are given (YthoicbafdanmkaaGreatDoorTie.lean); close each card by the builder's one call (the guide's Derived/Test/ToyasCard.lean, 'card_holds'). Laid BY PROGRAM, IN A SANDBOX (cutbox-door.mjs). By AI agents, Wed Nov 11 2026. No macro, syntax, notation, axiom, sorry.
-/
import Derived.Test.YthoicbafdanmkaaGreatDoorRows
import GoSem.ClaimSeven
namespace Go.Proofs.YthoicbafdanmkaaGreatDoor
namespace Rows

/-- THE TIED CARD OF 'posternlaw18.LabelBack'. -/
def labelBackCard : Claim7 := { stood := { row := labelBackRow, standIns := [], harness := (true, "b5c56cd741947b617a96b64b9b4e1db8a6070d5cfa35c56202826c52d526a920"), looks := false }, kinds := [], alts := [], laidByText := true, laidKinds := [.data, .pinned], laidTests := true, laidLooks := .later }
def LabelBackCardSaid : Prop := Claim7.holds Tryz.pinned (.plain (OpenSpec.ofChange labelBackSpec)) labelBackCard

/-- THE TIED CARD OF 'posternlaw18.LabelCodes'. -/
def labelCodesCard : Claim7 := { stood := { row := labelCodesRow, standIns := [], harness := (true, "b5c56cd741947b617a96b64b9b4e1db8a6070d5cfa35c56202826c52d526a920"), looks := false }, kinds := [], alts := [], laidByText := true, laidKinds := [.data, .pinned], laidTests := true, laidLooks := .later }
def LabelCodesCardSaid : Prop := Claim7.holds Tryz.pinned (.plain (OpenSpec.ofChange labelCodesSpec)) labelCodesCard

/-- THE TIED CARD OF 'posternlaw18.LabelSplits'. -/
def labelSplitsCard : Claim7 := { stood := { row := labelSplitsRow, standIns := [], harness := (true, "b5c56cd741947b617a96b64b9b4e1db8a6070d5cfa35c56202826c52d526a920"), looks := false }, kinds := [], alts := [], laidByText := true, laidKinds := [.data, .pinned], laidTests := true, laidLooks := .later }
def LabelSplitsCardSaid : Prop := Claim7.holds Tryz.pinned (.plain (OpenSpec.ofChange labelSplitsSpec)) labelSplitsCard

/-- THE TIED CARD OF 'posternlaw18.LabelStays'. -/
def labelStaysCard : Claim7 := { stood := { row := labelStaysRow, standIns := [], harness := (true, "b5c56cd741947b617a96b64b9b4e1db8a6070d5cfa35c56202826c52d526a920"), looks := false }, kinds := [], alts := [], laidByText := true, laidKinds := [.data, .pinned], laidTests := true, laidLooks := .later }
def LabelStaysCardSaid : Prop := Claim7.holds Tryz.pinned (.plain (OpenSpec.ofChange labelStaysSpec)) labelStaysCard

/-- THE SECOND FORM's CARD OF 'posternlaw18.LabelBack'. -/
def labelBackUptoCard : Claim7 := { stood := { row := labelBackUptoRow, standIns := [], harness := (true, "b5c56cd741947b617a96b64b9b4e1db8a6070d5cfa35c56202826c52d526a920"), looks := false }, kinds := [], alts := [], laidByText := true, laidKinds := [.data, .pinned], laidTests := true, laidLooks := .later }
def LabelBackUptoCardSaid : Prop := Claim7.holds Tryz.pinned (.plain (OpenSpec.upto labelBackSpec)) labelBackUptoCard

/-- THE SECOND FORM's CARD OF 'posternlaw18.LabelCodes'. -/
def labelCodesUptoCard : Claim7 := { stood := { row := labelCodesUptoRow, standIns := [], harness := (true, "b5c56cd741947b617a96b64b9b4e1db8a6070d5cfa35c56202826c52d526a920"), looks := false }, kinds := [], alts := [], laidByText := true, laidKinds := [.data, .pinned], laidTests := true, laidLooks := .later }
def LabelCodesUptoCardSaid : Prop := Claim7.holds Tryz.pinned (.plain (OpenSpec.upto labelCodesSpec)) labelCodesUptoCard

/-- THE SECOND FORM's CARD OF 'posternlaw18.LabelSplits'. -/
def labelSplitsUptoCard : Claim7 := { stood := { row := labelSplitsUptoRow, standIns := [], harness := (true, "b5c56cd741947b617a96b64b9b4e1db8a6070d5cfa35c56202826c52d526a920"), looks := false }, kinds := [], alts := [], laidByText := true, laidKinds := [.data, .pinned], laidTests := true, laidLooks := .later }
def LabelSplitsUptoCardSaid : Prop := Claim7.holds Tryz.pinned (.plain (OpenSpec.upto labelSplitsSpec)) labelSplitsUptoCard

/-- THE SECOND FORM's CARD OF 'posternlaw18.LabelStays'. -/
def labelStaysUptoCard : Claim7 := { stood := { row := labelStaysUptoRow, standIns := [], harness := (true, "b5c56cd741947b617a96b64b9b4e1db8a6070d5cfa35c56202826c52d526a920"), looks := false }, kinds := [], alts := [], laidByText := true, laidKinds := [.data, .pinned], laidTests := true, laidLooks := .later }
def LabelStaysUptoCardSaid : Prop := Claim7.holds Tryz.pinned (.plain (OpenSpec.upto labelStaysSpec)) labelStaysUptoCard
end Rows
end Go.Proofs.YthoicbafdanmkaaGreatDoor
