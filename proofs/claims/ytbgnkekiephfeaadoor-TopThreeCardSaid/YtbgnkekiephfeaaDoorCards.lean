/-
  DERIVED. GIVEN WITH THE SEED: THE CARDS: each row of YtbgnkekiephfeaaDoorRows.lean that lists a variable, with what it lists TIED to the program's text (the seventh form; the later family's looks); each row that meets fmt, with fmt's text TOLD by the authors' own Lean function (tested against real Go, not proved from fmt's source: count such statements apart). THE CARD IS WHAT COUNTS. Prove the row's statement (the work); the ties are given (YtbgnkekiephfeaaDoorTie.lean); close each card by the builder's one call (the guide's Derived/Test/ToyasCard.lean, 'card_holds'). Laid BY PROGRAM, IN A SANDBOX (cutbox-door.mjs). By AI agents, Wed Nov 11 2026. No macro, syntax, notation, axiom, sorry.
-/
import Derived.Test.YtbgnkekiephfeaaDoorRows
import GoSem.ClaimSeven
namespace Go.Proofs.YtbgnkekiephfeaaDoor
namespace Rows

/-- THE TIED CARD OF 'nacelletop.TopThree'. -/
def topThreeCard : Claim7 := { stood := { row := topThreeRow, standIns := [], harness := (true, "ead3b215875145a9b63912a550f05e0502bd1c207238dd53f96710cfddd69d44"), looks := false }, kinds := [], alts := [], laidByText := true, laidKinds := [.data], laidTests := true, laidLooks := .later }
def TopThreeCardSaid : Prop := Claim7.holds Tryd.pinned (.plain (OpenSpec.ofChange topThreeSpec)) topThreeCard

/-- THE SECOND FORM's CARD OF 'nacelletop.TopThree'. -/
def topThreeUptoCard : Claim7 := { stood := { row := topThreeUptoRow, standIns := [], harness := (true, "ead3b215875145a9b63912a550f05e0502bd1c207238dd53f96710cfddd69d44"), looks := false }, kinds := [], alts := [], laidByText := true, laidKinds := [.data], laidTests := true, laidLooks := .later }
def TopThreeUptoCardSaid : Prop := Claim7.holds Tryd.pinned (.plain (OpenSpec.upto topThreeSpec)) topThreeUptoCard
end Rows
end Go.Proofs.YtbgnkekiephfeaaDoor
