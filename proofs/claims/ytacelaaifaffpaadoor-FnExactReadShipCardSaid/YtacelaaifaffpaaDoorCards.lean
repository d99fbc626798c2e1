/-
  DERIVED. GIVEN WITH THE SEED: THE CARDS: each row of YtacelaaifaffpaaDoorRows.lean that lists a variable, with what it lists TIED to the program's text (the seventh form; the later family's looks); each row that meets fmt, with fmt's text TOLD by the authors' own Lean function (tested against real Go, not proved from fmt's source: count such statements apart). THE CARD IS WHAT COUNTS. Prove the row's statement (the work); the ties are given (YtacelaaifaffpaaDoorTie.lean); close each card by the builder's one call (the guide's Derived/Test/ToyasCard.lean, 'card_holds'). Laid BY PROGRAM, IN A SANDBOX (cutbox-door.mjs). By AI agents, Wed Nov 11 2026. No macro, syntax, notation, axiom, sorry.
-/
import Derived.Test.YtacelaaifaffpaaDoorRows
import GoSem.ClaimSeven
namespace Go.Proofs.YtacelaaifaffpaaDoor
namespace Rows

/-- THE TIED CARD OF 'laws.FnExactReadShip'. -/
def fnExactReadShipCard : Claim7 := { stood := { row := fnExactReadShipRow, standIns := [], harness := (true, "b521c696c799159f3e18c453d12a8f11cc8f265712f77e0ac41564fc3d917653"), looks := true }, kinds := [], alts := [], laidByText := true, laidKinds := [.data, .data, .data, .data, .sentinel, .sentinel, .pinned], laidTests := true, laidLooks := .later }
def FnExactReadShipCardSaid : Prop := Claim7.holds Tryd.pinned (.plain (OpenSpec.ofChange fnExactReadShipSpec)) fnExactReadShipCard

/-- THE SECOND FORM's CARD OF 'laws.FnExactReadShip'. -/
def fnExactReadShipUptoCard : Claim7 := { stood := { row := fnExactReadShipUptoRow, standIns := [], harness := (true, "b521c696c799159f3e18c453d12a8f11cc8f265712f77e0ac41564fc3d917653"), looks := true }, kinds := [], alts := [], laidByText := true, laidKinds := [.data, .data, .data, .data, .sentinel, .sentinel, .pinned], laidTests := true, laidLooks := .later }
def FnExactReadShipUptoCardSaid : Prop := Claim7.holds Tryd.pinned (.plain (OpenSpec.upto fnExactReadShipSpec)) fnExactReadShipUptoCard
end Rows
end Go.Proofs.YtacelaaifaffpaaDoor
