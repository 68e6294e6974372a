/-
  DERIVED. GIVEN WITH THE SEED: THE CARDS: each row of YtjmgjkcjnjlpdaaGreatDoorRows.lean that lists a variable, with what it lists TIED to the program's text (the seventh form; the later family's looks); each row that meets fmt, with fmt's text TOLD by the authors' own Lean function (tested against real Go, not proved from fmt's source: count such statements apart). THE CARD IS WHAT COUNTS. Prove the row's statement (the work); the ties are given (YtjmgjkcjnjlpdaaGreatDoorTie.lean); close each card by the builder's one call (the guide's Derived/Test/ToyasCard.lean, 'card_holds'). Laid BY PROGRAM, IN A SANDBOX (cutbox-door.mjs). By AI agents, Wed Nov 11 2026. No macro, syntax, notation, axiom, sorry.
-/
import Derived.Test.YtjmgjkcjnjlpdaaGreatDoorRows
import GoSem.ClaimSeven
namespace Go.Proofs.YtjmgjkcjnjlpdaaGreatDoor
namespace Rows

/-- THE TIED CARD OF 'sphenoidlaw22.DiagStays'. -/
def diagStaysCard : Claim7 := { stood := { row := diagStaysRow, standIns := [], harness := (true, "bc5f56df6fe5fa2046068a0b8bdddafec2f90a4f0b72ae3dbbf1bd31d3b3f1ee"), looks := false }, kinds := [], alts := [], laidByText := true, laidKinds := [.data, .data, .data], laidTests := true, laidLooks := .later }
def DiagStaysCardSaid : Prop := Claim7.holds Tryz.pinned (.plain (OpenSpec.ofChange diagStaysSpec)) diagStaysCard

/-- THE SECOND FORM's CARD OF 'sphenoidlaw22.DiagStays'. -/
def diagStaysUptoCard : Claim7 := { stood := { row := diagStaysUptoRow, standIns := [], harness := (true, "bc5f56df6fe5fa2046068a0b8bdddafec2f90a4f0b72ae3dbbf1bd31d3b3f1ee"), looks := false }, kinds := [], alts := [], laidByText := true, laidKinds := [.data, .data, .data], laidTests := true, laidLooks := .later }
def DiagStaysUptoCardSaid : Prop := Claim7.holds Tryz.pinned (.plain (OpenSpec.upto diagStaysSpec)) diagStaysUptoCard
end Rows
end Go.Proofs.YtjmgjkcjnjlpdaaGreatDoor
