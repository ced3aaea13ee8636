/-
  DERIVED. GIVEN WITH THE SEED: THE CARDS: each row of YtbajjfdkkffamaaGreatDoorRows.lean that lists a variable, with what it lists TIED to the program's text (the seventh form; the later family's looks); each row that meets fmt, with fmt's text TOLD by the authors' own Lean function (tested against real Go, not proved from fmt's source: count such statements apart). THE CARD IS WHAT COUNTS. Prove the row's statement (the work); the ties are given (YtbajjfdkkffamaaGreatDoorTie.lean); close each card by the builder's one call (the guide's Derived/Test/ToyasCard.lean, 'card_holds'). Laid BY PROGRAM, IN A SANDBOX (cutbox-door.mjs). By AI agents, Wed Nov 11 2026. No macro, syntax, notation, axiom, sorry.
-/
import Derived.Test.YtbajjfdkkffamaaGreatDoorRows
import GoSem.ClaimSeven
namespace Go.Proofs.YtbajjfdkkffamaaGreatDoor
namespace Rows

/-- THE TIED CARD OF 'geodelaw19.MapsBits'. -/
def mapsBitsCard : Claim7 := { stood := { row := mapsBitsRow, standIns := [], harness := (true, "bcf281a2282821df14f975e46aa3dff9fdcd4ffdf8fa50ca082c57b5e0c403b0"), looks := false }, kinds := [], alts := [], laidByText := true, laidKinds := [.data, .data, .data, .listed, .data], laidTests := true, laidLooks := .later }
def MapsBitsCardSaid : Prop := Claim7.holds Tryz.pinned (.plain (OpenSpec.ofChange mapsBitsSpec)) mapsBitsCard

/-- THE SECOND FORM's CARD OF 'geodelaw19.MapsBits'. -/
def mapsBitsUptoCard : Claim7 := { stood := { row := mapsBitsUptoRow, standIns := [], harness := (true, "bcf281a2282821df14f975e46aa3dff9fdcd4ffdf8fa50ca082c57b5e0c403b0"), looks := false }, kinds := [], alts := [], laidByText := true, laidKinds := [.data, .data, .data, .listed, .data], laidTests := true, laidLooks := .later }
def MapsBitsUptoCardSaid : Prop := Claim7.holds Tryz.pinned (.plain (OpenSpec.upto mapsBitsSpec)) mapsBitsUptoCard
end Rows
end Go.Proofs.YtbajjfdkkffamaaGreatDoor
