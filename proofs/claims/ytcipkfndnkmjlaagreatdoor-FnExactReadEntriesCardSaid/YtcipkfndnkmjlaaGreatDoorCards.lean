/-
  DERIVED. GIVEN WITH THE SEED: THE CARDS: each row of YtcipkfndnkmjlaaGreatDoorRows.lean that lists a variable, with what it lists TIED to the program's text (the seventh form; the later family's looks); each row that meets fmt, with fmt's text TOLD by the authors' own Lean function (tested against real Go, not proved from fmt's source: count such statements apart). THE CARD IS WHAT COUNTS. Prove the row's statement (the work); the ties are given (YtcipkfndnkmjlaaGreatDoorTie.lean); close each card by the builder's one call (the guide's Derived/Test/ToyasCard.lean, 'card_holds'). Laid BY PROGRAM, IN A SANDBOX (cutbox-door.mjs). By AI agents, Wed Nov 11 2026. No macro, syntax, notation, axiom, sorry.
-/
import Derived.Test.YtcipkfndnkmjlaaGreatDoorRows
import GoSem.ClaimSeven
namespace Go.Proofs.YtcipkfndnkmjlaaGreatDoor
namespace Rows

/-- THE TIED CARD OF 'laws.FnExactReadBodies'. -/
def fnExactReadBodiesCard : Claim7 := { stood := { row := fnExactReadBodiesRow, standIns := [], harness := (true, "174d57e84e53129c72eda13a02ea4f64b4ec5f42825b3f98f86b37fe6e1c14e8"), looks := true }, kinds := [], alts := [], laidByText := true, laidKinds := [.data, .data, .data, .data, .sentinel, .sentinel, .pinned], laidTests := true, laidLooks := .later }
def FnExactReadBodiesCardSaid : Prop := Claim7.holds Tryz.pinned (.plain (OpenSpec.ofChange fnExactReadBodiesSpec)) fnExactReadBodiesCard

/-- THE TIED CARD OF 'laws.FnExactReadEntries'. -/
def fnExactReadEntriesCard : Claim7 := { stood := { row := fnExactReadEntriesRow, standIns := [], harness := (true, "174d57e84e53129c72eda13a02ea4f64b4ec5f42825b3f98f86b37fe6e1c14e8"), looks := true }, kinds := [], alts := [], laidByText := true, laidKinds := [.data, .data, .data, .data, .sentinel, .sentinel, .pinned], laidTests := true, laidLooks := .later }
def FnExactReadEntriesCardSaid : Prop := Claim7.holds Tryz.pinned (.plain (OpenSpec.ofChange fnExactReadEntriesSpec)) fnExactReadEntriesCard

/-- THE SECOND FORM's CARD OF 'laws.FnExactReadBodies'. -/
def fnExactReadBodiesUptoCard : Claim7 := { stood := { row := fnExactReadBodiesUptoRow, standIns := [], harness := (true, "174d57e84e53129c72eda13a02ea4f64b4ec5f42825b3f98f86b37fe6e1c14e8"), looks := true }, kinds := [], alts := [], laidByText := true, laidKinds := [.data, .data, .data, .data, .sentinel, .sentinel, .pinned], laidTests := true, laidLooks := .later }
def FnExactReadBodiesUptoCardSaid : Prop := Claim7.holds Tryz.pinned (.plain (OpenSpec.upto fnExactReadBodiesSpec)) fnExactReadBodiesUptoCard

/-- THE SECOND FORM's CARD OF 'laws.FnExactReadEntries'. -/
def fnExactReadEntriesUptoCard : Claim7 := { stood := { row := fnExactReadEntriesUptoRow, standIns := [], harness := (true, "174d57e84e53129c72eda13a02ea4f64b4ec5f42825b3f98f86b37fe6e1c14e8"), looks := true }, kinds := [], alts := [], laidByText := true, laidKinds := [.data, .data, .data, .data, .sentinel, .sentinel, .pinned], laidTests := true, laidLooks := .later }
def FnExactReadEntriesUptoCardSaid : Prop := Claim7.holds Tryz.pinned (.plain (OpenSpec.upto fnExactReadEntriesSpec)) fnExactReadEntriesUptoCard
end Rows
end Go.Proofs.YtcipkfndnkmjlaaGreatDoor
