/-
  DERIVED. GIVEN WITH THE SEED: THE CARDS: each row of YtamnlkconfannaaGreatDoorRows.lean that lists a variable, with what it lists TIED to the program's text (the seventh form; the later family's looks); each row that meets fmt, with fmt's text TOLD by the authors' own Lean function (tested against real Go, not proved from fmt's source: count such statements apart). THE CARD IS WHAT COUNTS. Prove the row's statement (the work); the ties are given (YtamnlkconfannaaGreatDoorTie.lean); close each card by the builder's one call (the guide's Derived/Test/ToyasCard.lean, 'card_holds'). Laid BY PROGRAM, IN A SANDBOX (cutbox-door.mjs). By AI agents, Wed Nov 11 2026. No macro, syntax, notation, axiom, sorry.
-/
import Derived.Test.YtamnlkconfannaaGreatDoorRows
import GoSem.ClaimSeven
namespace Go.Proofs.YtamnlkconfannaaGreatDoor
namespace Rows

/-- THE TIED CARD OF 'benchkeep2.FinalsStay'. -/
def finalsStayCard : Claim7 := { stood := { row := finalsStayRow, standIns := [], harness := (true, "b15c332ba5e49d90dc141d527f806845d7da147494d336fe82b16036555dac6d"), looks := false }, kinds := [], alts := [], laidByText := true, laidKinds := [.data, .pinned], laidTests := true, laidLooks := .later }
def FinalsStayCardSaid : Prop := Claim7.holds Tryz.pinned (.plain (OpenSpec.ofChange finalsStaySpec)) finalsStayCard

/-- THE SECOND FORM's CARD OF 'benchkeep2.FinalsStay'. -/
def finalsStayUptoCard : Claim7 := { stood := { row := finalsStayUptoRow, standIns := [], harness := (true, "b15c332ba5e49d90dc141d527f806845d7da147494d336fe82b16036555dac6d"), looks := false }, kinds := [], alts := [], laidByText := true, laidKinds := [.data, .pinned], laidTests := true, laidLooks := .later }
def FinalsStayUptoCardSaid : Prop := Claim7.holds Tryz.pinned (.plain (OpenSpec.upto finalsStaySpec)) finalsStayUptoCard
end Rows
end Go.Proofs.YtamnlkconfannaaGreatDoor
