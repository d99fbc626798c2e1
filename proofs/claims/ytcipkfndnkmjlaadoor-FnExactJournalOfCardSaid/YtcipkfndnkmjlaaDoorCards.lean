/-
  DERIVED. GIVEN WITH THE SEED: THE CARDS: each row of YtcipkfndnkmjlaaDoorRows.lean that lists a variable, with what it lists TIED to the program's text (the seventh form; the later family's looks); each row that meets fmt, with fmt's text TOLD by the authors' own Lean function (tested against real Go, not proved from fmt's source: count such statements apart). THE CARD IS WHAT COUNTS. Prove the row's statement (the work); the ties are given (YtcipkfndnkmjlaaDoorTie.lean); close each card by the builder's one call (the guide's Derived/Test/ToyasCard.lean, 'card_holds'). Laid BY PROGRAM, IN A SANDBOX (cutbox-door.mjs). By AI agents, Wed Nov 11 2026. No macro, syntax, notation, axiom, sorry.
-/
import Derived.Test.YtcipkfndnkmjlaaDoorRows
import GoSem.ClaimSeven
namespace Go.Proofs.YtcipkfndnkmjlaaDoor
namespace Rows

/-- THE TIED CARD OF 'laws.FnExactVectorText'. -/
def fnExactVectorTextCard : Claim7 := { stood := { row := fnExactVectorTextRow, standIns := [], harness := (true, "193fdc50a849b9448b3a334ac06d63c1d53a4d673d2000c9be468dc2779e2945"), looks := true }, kinds := [], alts := [], laidByText := true, laidKinds := [.data, .data, .data], laidTests := true, laidLooks := .later }
def FnExactVectorTextCardSaid : Prop := Claim7.holds Tryd.pinned (.plain (OpenSpec.ofChange fnExactVectorTextSpec)) fnExactVectorTextCard

/-- THE TIED CARD OF 'laws.FnExactBallText'. -/
def fnExactBallTextCard : Claim7 := { stood := { row := fnExactBallTextRow, standIns := [], harness := (true, "193fdc50a849b9448b3a334ac06d63c1d53a4d673d2000c9be468dc2779e2945"), looks := true }, kinds := [], alts := [], laidByText := true, laidKinds := [.data, .data, .data], laidTests := true, laidLooks := .later }
def FnExactBallTextCardSaid : Prop := Claim7.holds Tryd.pinned (.plain (OpenSpec.ofChange fnExactBallTextSpec)) fnExactBallTextCard

/-- THE TIED CARD OF 'laws.FnExactOrbitText'. -/
def fnExactOrbitTextCard : Claim7 := { stood := { row := fnExactOrbitTextRow, standIns := [], harness := (true, "193fdc50a849b9448b3a334ac06d63c1d53a4d673d2000c9be468dc2779e2945"), looks := true }, kinds := [], alts := [], laidByText := true, laidKinds := [.data, .data, .data], laidTests := true, laidLooks := .later }
def FnExactOrbitTextCardSaid : Prop := Claim7.holds Tryd.pinned (.plain (OpenSpec.ofChange fnExactOrbitTextSpec)) fnExactOrbitTextCard

/-- THE TIED CARD OF 'laws.FnExactBodiesText'. -/
def fnExactBodiesTextCard : Claim7 := { stood := { row := fnExactBodiesTextRow, standIns := [], harness := (true, "193fdc50a849b9448b3a334ac06d63c1d53a4d673d2000c9be468dc2779e2945"), looks := true }, kinds := [], alts := [], laidByText := true, laidKinds := [.data, .data, .data], laidTests := true, laidLooks := .later }
def FnExactBodiesTextCardSaid : Prop := Claim7.holds Tryd.pinned (.plain (OpenSpec.ofChange fnExactBodiesTextSpec)) fnExactBodiesTextCard

/-- THE TIED CARD OF 'laws.FnExactEntriesText'. -/
def fnExactEntriesTextCard : Claim7 := { stood := { row := fnExactEntriesTextRow, standIns := [], harness := (true, "193fdc50a849b9448b3a334ac06d63c1d53a4d673d2000c9be468dc2779e2945"), looks := true }, kinds := [], alts := [], laidByText := true, laidKinds := [.data, .data, .data], laidTests := true, laidLooks := .later }
def FnExactEntriesTextCardSaid : Prop := Claim7.holds Tryd.pinned (.plain (OpenSpec.ofChange fnExactEntriesTextSpec)) fnExactEntriesTextCard

/-- THE TIED CARD OF 'laws.FnExactReadBall'. -/
def fnExactReadBallCard : Claim7 := { stood := { row := fnExactReadBallRow, standIns := [], harness := (true, "193fdc50a849b9448b3a334ac06d63c1d53a4d673d2000c9be468dc2779e2945"), looks := true }, kinds := [], alts := [], laidByText := true, laidKinds := [.data, .data, .data, .data, .sentinel, .sentinel, .pinned], laidTests := true, laidLooks := .later }
def FnExactReadBallCardSaid : Prop := Claim7.holds Tryd.pinned (.plain (OpenSpec.ofChange fnExactReadBallSpec)) fnExactReadBallCard

/-- THE TIED CARD OF 'laws.FnExactReadOrbit'. -/
def fnExactReadOrbitCard : Claim7 := { stood := { row := fnExactReadOrbitRow, standIns := [], harness := (true, "193fdc50a849b9448b3a334ac06d63c1d53a4d673d2000c9be468dc2779e2945"), looks := true }, kinds := [], alts := [], laidByText := true, laidKinds := [.data, .data, .data, .data, .sentinel, .sentinel, .pinned], laidTests := true, laidLooks := .later }
def FnExactReadOrbitCardSaid : Prop := Claim7.holds Tryd.pinned (.plain (OpenSpec.ofChange fnExactReadOrbitSpec)) fnExactReadOrbitCard

/-- THE TIED CARD OF 'laws.FnExactJournalOf'. -/
def fnExactJournalOfCard : Claim7 := { stood := { row := fnExactJournalOfRow, standIns := [], harness := (true, "193fdc50a849b9448b3a334ac06d63c1d53a4d673d2000c9be468dc2779e2945"), looks := true }, kinds := [], alts := [], laidByText := true, laidKinds := [.data, .data, .data], laidTests := true, laidLooks := .later }
def FnExactJournalOfCardSaid : Prop := Claim7.holds Tryd.pinned (.plain (OpenSpec.ofChange fnExactJournalOfSpec)) fnExactJournalOfCard

/-- THE TIED CARD OF 'laws.FnExactRecoverJournal'. -/
def fnExactRecoverJournalCard : Claim7 := { stood := { row := fnExactRecoverJournalRow, standIns := [], harness := (true, "193fdc50a849b9448b3a334ac06d63c1d53a4d673d2000c9be468dc2779e2945"), looks := true }, kinds := [], alts := [], laidByText := true, laidKinds := [.data, .data, .data], laidTests := true, laidLooks := .later }
def FnExactRecoverJournalCardSaid : Prop := Claim7.holds Tryd.pinned (.plain (OpenSpec.ofChange fnExactRecoverJournalSpec)) fnExactRecoverJournalCard

/-- THE TIED CARD OF 'laws.FnExactCountOutputs'. -/
def fnExactCountOutputsCard : Claim7 := { stood := { row := fnExactCountOutputsRow, standIns := [], harness := (true, "193fdc50a849b9448b3a334ac06d63c1d53a4d673d2000c9be468dc2779e2945"), looks := true }, kinds := [], alts := [], laidByText := true, laidKinds := [.data, .pinned], laidTests := true, laidLooks := .later }
def FnExactCountOutputsCardSaid : Prop := Claim7.holds Tryd.pinned (.plain (OpenSpec.ofChange fnExactCountOutputsSpec)) fnExactCountOutputsCard

/-- THE SECOND FORM's CARD OF 'laws.FnExactVectorText'. -/
def fnExactVectorTextUptoCard : Claim7 := { stood := { row := fnExactVectorTextUptoRow, standIns := [], harness := (true, "193fdc50a849b9448b3a334ac06d63c1d53a4d673d2000c9be468dc2779e2945"), looks := true }, kinds := [], alts := [], laidByText := true, laidKinds := [.data, .data, .data], laidTests := true, laidLooks := .later }
def FnExactVectorTextUptoCardSaid : Prop := Claim7.holds Tryd.pinned (.plain (OpenSpec.upto fnExactVectorTextSpec)) fnExactVectorTextUptoCard

/-- THE SECOND FORM's CARD OF 'laws.FnExactBallText'. -/
def fnExactBallTextUptoCard : Claim7 := { stood := { row := fnExactBallTextUptoRow, standIns := [], harness := (true, "193fdc50a849b9448b3a334ac06d63c1d53a4d673d2000c9be468dc2779e2945"), looks := true }, kinds := [], alts := [], laidByText := true, laidKinds := [.data, .data, .data], laidTests := true, laidLooks := .later }
def FnExactBallTextUptoCardSaid : Prop := Claim7.holds Tryd.pinned (.plain (OpenSpec.upto fnExactBallTextSpec)) fnExactBallTextUptoCard

/-- THE SECOND FORM's CARD OF 'laws.FnExactOrbitText'. -/
def fnExactOrbitTextUptoCard : Claim7 := { stood := { row := fnExactOrbitTextUptoRow, standIns := [], harness := (true, "193fdc50a849b9448b3a334ac06d63c1d53a4d673d2000c9be468dc2779e2945"), looks := true }, kinds := [], alts := [], laidByText := true, laidKinds := [.data, .data, .data], laidTests := true, laidLooks := .later }
def FnExactOrbitTextUptoCardSaid : Prop := Claim7.holds Tryd.pinned (.plain (OpenSpec.upto fnExactOrbitTextSpec)) fnExactOrbitTextUptoCard

/-- THE SECOND FORM's CARD OF 'laws.FnExactBodiesText'. -/
def fnExactBodiesTextUptoCard : Claim7 := { stood := { row := fnExactBodiesTextUptoRow, standIns := [], harness := (true, "193fdc50a849b9448b3a334ac06d63c1d53a4d673d2000c9be468dc2779e2945"), looks := true }, kinds := [], alts := [], laidByText := true, laidKinds := [.data, .data, .data], laidTests := true, laidLooks := .later }
def FnExactBodiesTextUptoCardSaid : Prop := Claim7.holds Tryd.pinned (.plain (OpenSpec.upto fnExactBodiesTextSpec)) fnExactBodiesTextUptoCard

/-- THE SECOND FORM's CARD OF 'laws.FnExactEntriesText'. -/
def fnExactEntriesTextUptoCard : Claim7 := { stood := { row := fnExactEntriesTextUptoRow, standIns := [], harness := (true, "193fdc50a849b9448b3a334ac06d63c1d53a4d673d2000c9be468dc2779e2945"), looks := true }, kinds := [], alts := [], laidByText := true, laidKinds := [.data, .data, .data], laidTests := true, laidLooks := .later }
def FnExactEntriesTextUptoCardSaid : Prop := Claim7.holds Tryd.pinned (.plain (OpenSpec.upto fnExactEntriesTextSpec)) fnExactEntriesTextUptoCard

/-- THE SECOND FORM's CARD OF 'laws.FnExactReadBall'. -/
def fnExactReadBallUptoCard : Claim7 := { stood := { row := fnExactReadBallUptoRow, standIns := [], harness := (true, "193fdc50a849b9448b3a334ac06d63c1d53a4d673d2000c9be468dc2779e2945"), looks := true }, kinds := [], alts := [], laidByText := true, laidKinds := [.data, .data, .data, .data, .sentinel, .sentinel, .pinned], laidTests := true, laidLooks := .later }
def FnExactReadBallUptoCardSaid : Prop := Claim7.holds Tryd.pinned (.plain (OpenSpec.upto fnExactReadBallSpec)) fnExactReadBallUptoCard

/-- THE SECOND FORM's CARD OF 'laws.FnExactReadOrbit'. -/
def fnExactReadOrbitUptoCard : Claim7 := { stood := { row := fnExactReadOrbitUptoRow, standIns := [], harness := (true, "193fdc50a849b9448b3a334ac06d63c1d53a4d673d2000c9be468dc2779e2945"), looks := true }, kinds := [], alts := [], laidByText := true, laidKinds := [.data, .data, .data, .data, .sentinel, .sentinel, .pinned], laidTests := true, laidLooks := .later }
def FnExactReadOrbitUptoCardSaid : Prop := Claim7.holds Tryd.pinned (.plain (OpenSpec.upto fnExactReadOrbitSpec)) fnExactReadOrbitUptoCard

/-- THE SECOND FORM's CARD OF 'laws.FnExactJournalOf'. -/
def fnExactJournalOfUptoCard : Claim7 := { stood := { row := fnExactJournalOfUptoRow, standIns := [], harness := (true, "193fdc50a849b9448b3a334ac06d63c1d53a4d673d2000c9be468dc2779e2945"), looks := true }, kinds := [], alts := [], laidByText := true, laidKinds := [.data, .data, .data], laidTests := true, laidLooks := .later }
def FnExactJournalOfUptoCardSaid : Prop := Claim7.holds Tryd.pinned (.plain (OpenSpec.upto fnExactJournalOfSpec)) fnExactJournalOfUptoCard

/-- THE SECOND FORM's CARD OF 'laws.FnExactRecoverJournal'. -/
def fnExactRecoverJournalUptoCard : Claim7 := { stood := { row := fnExactRecoverJournalUptoRow, standIns := [], harness := (true, "193fdc50a849b9448b3a334ac06d63c1d53a4d673d2000c9be468dc2779e2945"), looks := true }, kinds := [], alts := [], laidByText := true, laidKinds := [.data, .data, .data], laidTests := true, laidLooks := .later }
def FnExactRecoverJournalUptoCardSaid : Prop := Claim7.holds Tryd.pinned (.plain (OpenSpec.upto fnExactRecoverJournalSpec)) fnExactRecoverJournalUptoCard

/-- THE SECOND FORM's CARD OF 'laws.FnExactCountOutputs'. -/
def fnExactCountOutputsUptoCard : Claim7 := { stood := { row := fnExactCountOutputsUptoRow, standIns := [], harness := (true, "193fdc50a849b9448b3a334ac06d63c1d53a4d673d2000c9be468dc2779e2945"), looks := true }, kinds := [], alts := [], laidByText := true, laidKinds := [.data, .pinned], laidTests := true, laidLooks := .later }
def FnExactCountOutputsUptoCardSaid : Prop := Claim7.holds Tryd.pinned (.plain (OpenSpec.upto fnExactCountOutputsSpec)) fnExactCountOutputsUptoCard
end Rows
end Go.Proofs.YtcipkfndnkmjlaaDoor
