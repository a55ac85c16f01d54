/-
  DERIVED. GIVEN WITH THE SEED: THE CARDS: each row of YtdkkmdeanfcfnaaGreatDoorRows.lean that lists a variable, with what it lists TIED to the program's text (the seventh form; the later family's looks); each row that meets fmt, with fmt's text TOLD by the authors' own Lean function (tested against real Go, not proved from fmt's source: count such statements apart). THE CARD IS WHAT COUNTS. Prove the row's statement (the work); the ties are given (YtdkkmdeanfcfnaaGreatDoorTie.lean); close each card by the builder's one call (the guide's Derived/Test/ToyasCard.lean, 'card_holds'). Laid BY PROGRAM, IN A SANDBOX (cutbox-door.mjs). By AI agents, Wed Nov 11 2026. No macro, syntax, notation, axiom, sorry.
-/
import Derived.Test.YtdkkmdeanfcfnaaGreatDoorRows
import GoSem.ClaimSeven
namespace Go.Proofs.YtdkkmdeanfcfnaaGreatDoor
namespace Rows

/-- THE TIED CARD OF 'posternlaw19.IdnaRules'. -/
def idnaRulesCard : Claim7 := { stood := { row := idnaRulesRow, standIns := [], harness := (true, "e53616a7e845c9dc5f2d9430cefa56796e58ee49fd0021af25f325ecec50b7d1"), looks := false }, kinds := [], alts := [], laidByText := true, laidKinds := [.data, .pinned], laidTests := true, laidLooks := .later }
def IdnaRulesCardSaid : Prop := Claim7.holds Tryz.pinned (.plain (OpenSpec.ofChange idnaRulesSpec)) idnaRulesCard

/-- THE TIED CARD OF 'posternlaw19.IdnaSame'. -/
def idnaSameCard : Claim7 := { stood := { row := idnaSameRow, standIns := [], harness := (true, "e53616a7e845c9dc5f2d9430cefa56796e58ee49fd0021af25f325ecec50b7d1"), looks := false }, kinds := [], alts := [], laidByText := true, laidKinds := [.data, .pinned], laidTests := true, laidLooks := .later }
def IdnaSameCardSaid : Prop := Claim7.holds Tryz.pinned (.plain (OpenSpec.ofChange idnaSameSpec)) idnaSameCard

/-- THE SECOND FORM's CARD OF 'posternlaw19.IdnaRules'. -/
def idnaRulesUptoCard : Claim7 := { stood := { row := idnaRulesUptoRow, standIns := [], harness := (true, "e53616a7e845c9dc5f2d9430cefa56796e58ee49fd0021af25f325ecec50b7d1"), looks := false }, kinds := [], alts := [], laidByText := true, laidKinds := [.data, .pinned], laidTests := true, laidLooks := .later }
def IdnaRulesUptoCardSaid : Prop := Claim7.holds Tryz.pinned (.plain (OpenSpec.upto idnaRulesSpec)) idnaRulesUptoCard

/-- THE SECOND FORM's CARD OF 'posternlaw19.IdnaSame'. -/
def idnaSameUptoCard : Claim7 := { stood := { row := idnaSameUptoRow, standIns := [], harness := (true, "e53616a7e845c9dc5f2d9430cefa56796e58ee49fd0021af25f325ecec50b7d1"), looks := false }, kinds := [], alts := [], laidByText := true, laidKinds := [.data, .pinned], laidTests := true, laidLooks := .later }
def IdnaSameUptoCardSaid : Prop := Claim7.holds Tryz.pinned (.plain (OpenSpec.upto idnaSameSpec)) idnaSameUptoCard
end Rows
end Go.Proofs.YtdkkmdeanfcfnaaGreatDoor
