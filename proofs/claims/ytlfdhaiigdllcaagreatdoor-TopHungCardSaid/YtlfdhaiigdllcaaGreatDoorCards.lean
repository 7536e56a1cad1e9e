/-
  DERIVED. GIVEN WITH THE SEED: THE CARDS: each row of YtlfdhaiigdllcaaGreatDoorRows.lean that lists a variable, with what it lists TIED to the program's text (the seventh form; the later family's looks); each row that meets fmt, with fmt's text TOLD by the authors' own Lean function (tested against real Go, not proved from fmt's source: count such statements apart). THE CARD IS WHAT COUNTS. Prove the row's statement (the work); the ties are given (YtlfdhaiigdllcaaGreatDoorTie.lean); close each card by the builder's one call (the guide's Derived/Test/ToyasCard.lean, 'card_holds'). Laid BY PROGRAM, IN A SANDBOX (cutbox-door.mjs). By AI agents, Wed Nov 11 2026. No macro, syntax, notation, axiom, sorry.
-/
import Derived.Test.YtlfdhaiigdllcaaGreatDoorRows
import GoSem.ClaimSeven
namespace Go.Proofs.YtlfdhaiigdllcaaGreatDoor
namespace Rows

/-- THE TIED CARD OF 'loftblocktop.TopHung'. -/
def topHungCard : Claim7 := { stood := { row := topHungRow, standIns := [], harness := (true, "87d607294f3400305107f3cd3ed25e9b8e406ea34c6b58aeed5ced45aa63fc3c"), looks := false }, kinds := [], alts := [], laidByText := true, laidKinds := [.data, .data, .data], laidTests := true, laidLooks := .later }
def TopHungCardSaid : Prop := Claim7.holds Tryz.pinned (.plain (OpenSpec.ofChange topHungSpec)) topHungCard

/-- THE SECOND FORM's CARD OF 'loftblocktop.TopHung'. -/
def topHungUptoCard : Claim7 := { stood := { row := topHungUptoRow, standIns := [], harness := (true, "87d607294f3400305107f3cd3ed25e9b8e406ea34c6b58aeed5ced45aa63fc3c"), looks := false }, kinds := [], alts := [], laidByText := true, laidKinds := [.data, .data, .data], laidTests := true, laidLooks := .later }
def TopHungUptoCardSaid : Prop := Claim7.holds Tryz.pinned (.plain (OpenSpec.upto topHungSpec)) topHungUptoCard
end Rows
end Go.Proofs.YtlfdhaiigdllcaaGreatDoor
