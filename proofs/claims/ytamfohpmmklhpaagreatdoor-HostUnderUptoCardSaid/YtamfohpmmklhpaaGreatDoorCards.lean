/-
  DERIVED. GIVEN WITH THE SEED: THE CARDS: each row of YtamfohpmmklhpaaGreatDoorRows.lean that lists a variable, with what it lists TIED to the program's text (the seventh form; the later family's looks); each row that meets fmt, with fmt's text TOLD by the authors' own Lean function (tested against real Go, not proved from fmt's source: count such statements apart). THE CARD IS WHAT COUNTS. Prove the row's statement (the work); the ties are given (YtamfohpmmklhpaaGreatDoorTie.lean); close each card by the builder's one call (the guide's Derived/Test/ToyasCard.lean, 'card_holds'). Laid BY PROGRAM, IN A SANDBOX (cutbox-door.mjs). By AI agents, Wed Nov 11 2026. No macro, syntax, notation, axiom, sorry.
-/
import Derived.Test.YtamfohpmmklhpaaGreatDoorRows
import GoSem.ClaimSeven
namespace Go.Proofs.YtamfohpmmklhpaaGreatDoor
namespace Rows

/-- THE TIED CARD OF 'posternlaw23.HostUnder'. -/
def hostUnderCard : Claim7 := { stood := { row := hostUnderRow, standIns := [], harness := (true, "4e5c0f92a16b7f4c811dd8018a59a18b4d76524c56a73f2cb5886c7764d5655e"), looks := false }, kinds := [], alts := [], laidByText := true, laidKinds := [.data, .pinned], laidTests := true, laidLooks := .later }
def HostUnderCardSaid : Prop := Claim7.holds Tryz.pinned (.plain (OpenSpec.ofChange hostUnderSpec)) hostUnderCard

/-- THE SECOND FORM's CARD OF 'posternlaw23.HostUnder'. -/
def hostUnderUptoCard : Claim7 := { stood := { row := hostUnderUptoRow, standIns := [], harness := (true, "4e5c0f92a16b7f4c811dd8018a59a18b4d76524c56a73f2cb5886c7764d5655e"), looks := false }, kinds := [], alts := [], laidByText := true, laidKinds := [.data, .pinned], laidTests := true, laidLooks := .later }
def HostUnderUptoCardSaid : Prop := Claim7.holds Tryz.pinned (.plain (OpenSpec.upto hostUnderSpec)) hostUnderUptoCard
end Rows
end Go.Proofs.YtamfohpmmklhpaaGreatDoor
