/-
  DERIVED. GIVEN WITH THE SEED: THE CARDS: each row of YtkjnmjhkekknnaaGreatDoorRows.lean that lists a variable, with what it lists TIED to the program's text (the seventh form; the later family's looks); each row that meets fmt, with fmt's text TOLD by the authors' own Lean function (tested against real Go, not proved from fmt's source: count such statements apart). THE CARD IS WHAT COUNTS. Prove the row's statement (the work); the ties are given (YtkjnmjhkekknnaaGreatDoorTie.lean); close each card by the builder's one call (the guide's Derived/Test/ToyasCard.lean, 'card_holds'). Laid BY PROGRAM, IN A SANDBOX (cutbox-door.mjs). By AI agents, Wed Nov 11 2026. No macro, syntax, notation, axiom, sorry.
-/
import Derived.Test.YtkjnmjhkekknnaaGreatDoorRows
import GoSem.ClaimSeven
namespace Go.Proofs.YtkjnmjhkekknnaaGreatDoor
namespace Rows

/-- THE TIED CARD OF 'posternlaw23.HostTells'. -/
def hostTellsCard : Claim7 := { stood := { row := hostTellsRow, standIns := [], harness := (true, "bb868fcc61e3da6a4f51388e6964541842154aca96ac53447370a6c3efb006b7"), looks := false }, kinds := [], alts := [], laidByText := true, laidKinds := [.data, .data, .data, .data, .pinned], laidTests := true, laidLooks := .later }
def HostTellsCardSaid : Prop := Claim7.holds Tryz.pinned (.plain (OpenSpec.ofChange hostTellsSpec)) hostTellsCard

/-- THE SECOND FORM's CARD OF 'posternlaw23.HostTells'. -/
def hostTellsUptoCard : Claim7 := { stood := { row := hostTellsUptoRow, standIns := [], harness := (true, "bb868fcc61e3da6a4f51388e6964541842154aca96ac53447370a6c3efb006b7"), looks := false }, kinds := [], alts := [], laidByText := true, laidKinds := [.data, .data, .data, .data, .pinned], laidTests := true, laidLooks := .later }
def HostTellsUptoCardSaid : Prop := Claim7.holds Tryz.pinned (.plain (OpenSpec.upto hostTellsSpec)) hostTellsUptoCard
end Rows
end Go.Proofs.YtkjnmjhkekknnaaGreatDoor
