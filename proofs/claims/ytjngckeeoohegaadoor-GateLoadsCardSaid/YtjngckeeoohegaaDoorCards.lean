/-
  DERIVED. GIVEN WITH THE SEED: THE CARDS: each row of YtjngckeeoohegaaDoorRows.lean that lists a variable, with what it lists TIED to the program's text (the seventh form; the later family's looks); each row that meets fmt, with fmt's text TOLD by the authors' own Lean function (tested against real Go, not proved from fmt's source: count such statements apart). THE CARD IS WHAT COUNTS. Prove the row's statement (the work); the ties are given (YtjngckeeoohegaaDoorTie.lean); close each card by the builder's one call (the guide's Derived/Test/ToyasCard.lean, 'card_holds'). Laid BY PROGRAM, IN A SANDBOX (cutbox-door.mjs). By AI agents, Wed Nov 11 2026. No macro, syntax, notation, axiom, sorry.
-/
import Derived.Test.YtjngckeeoohegaaDoorRows
import GoSem.ClaimSeven
namespace Go.Proofs.YtjngckeeoohegaaDoor
namespace Rows

/-- THE TIED CARD OF 'marsheslaw22.GateLoads'. -/
def gateLoadsCard : Claim7 := { stood := { row := gateLoadsRow, standIns := [], harness := (true, "35be47ab1786a4d2bd6d7947a1ce862bc0cba30e318369d3e8affbb96f9e5b1b"), looks := false }, kinds := [], alts := [], laidByText := true, laidKinds := [.data, .pinned], laidTests := true, laidLooks := .later }
def GateLoadsCardSaid : Prop := Claim7.holds Tryd.pinned (.plain (OpenSpec.ofChange gateLoadsSpec)) gateLoadsCard

/-- THE SECOND FORM's CARD OF 'marsheslaw22.GateLoads'. -/
def gateLoadsUptoCard : Claim7 := { stood := { row := gateLoadsUptoRow, standIns := [], harness := (true, "35be47ab1786a4d2bd6d7947a1ce862bc0cba30e318369d3e8affbb96f9e5b1b"), looks := false }, kinds := [], alts := [], laidByText := true, laidKinds := [.data, .pinned], laidTests := true, laidLooks := .later }
def GateLoadsUptoCardSaid : Prop := Claim7.holds Tryd.pinned (.plain (OpenSpec.upto gateLoadsSpec)) gateLoadsUptoCard
end Rows
end Go.Proofs.YtjngckeeoohegaaDoor
