/-
  DERIVED. GIVEN WITH THE SEED: THE CARDS: each row of YtgeoihombkjgnaaGreatDoorRows.lean that lists a variable, with what it lists TIED to the program's text (the seventh form; the later family's looks); each row that meets fmt, with fmt's text TOLD by the authors' own Lean function (tested against real Go, not proved from fmt's source: count such statements apart). THE CARD IS WHAT COUNTS. Prove the row's statement (the work); the ties are given (YtgeoihombkjgnaaGreatDoorTie.lean); close each card by the builder's one call (the guide's Derived/Test/ToyasCard.lean, 'card_holds'). Laid BY PROGRAM, IN A SANDBOX (cutbox-door.mjs). By AI agents, Wed Nov 11 2026. No macro, syntax, notation, axiom, sorry.
-/
import Derived.Test.YtgeoihombkjgnaaGreatDoorRows
import GoSem.ClaimSeven
namespace Go.Proofs.YtgeoihombkjgnaaGreatDoor
namespace Rows

/-- THE TIED CARD OF 'benchkeep2.BestWinAll'. -/
def bestWinAllCard : Claim7 := { stood := { row := bestWinAllRow, standIns := [], harness := (true, "65c752bc48e4924689723d5a9fcedb0902f32824fcc2dce6ed6fcc72273bcb27"), looks := false }, kinds := [], alts := [], laidByText := true, laidKinds := [.data, .pinned], laidTests := true, laidLooks := .later }
def BestWinAllCardSaid : Prop := Claim7.holds Tryz.pinned (.plain (OpenSpec.ofChange bestWinAllSpec)) bestWinAllCard

/-- THE SECOND FORM's CARD OF 'benchkeep2.BestWinAll'. -/
def bestWinAllUptoCard : Claim7 := { stood := { row := bestWinAllUptoRow, standIns := [], harness := (true, "65c752bc48e4924689723d5a9fcedb0902f32824fcc2dce6ed6fcc72273bcb27"), looks := false }, kinds := [], alts := [], laidByText := true, laidKinds := [.data, .pinned], laidTests := true, laidLooks := .later }
def BestWinAllUptoCardSaid : Prop := Claim7.holds Tryz.pinned (.plain (OpenSpec.upto bestWinAllSpec)) bestWinAllUptoCard
end Rows
end Go.Proofs.YtgeoihombkjgnaaGreatDoor
