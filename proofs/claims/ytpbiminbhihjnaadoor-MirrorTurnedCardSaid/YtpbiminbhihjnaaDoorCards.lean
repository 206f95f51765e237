/-
  DERIVED. GIVEN WITH THE SEED: THE CARDS: each row of YtpbiminbhihjnaaDoorRows.lean that lists a variable, with what it lists TIED to the program's text (the seventh form; the later family's looks); each row that meets fmt, with fmt's text TOLD by the authors' own Lean function (tested against real Go, not proved from fmt's source: count such statements apart). THE CARD IS WHAT COUNTS. Prove the row's statement (the work); the ties are given (YtpbiminbhihjnaaDoorTie.lean); close each card by the builder's one call (the guide's Derived/Test/ToyasCard.lean, 'card_holds'). Laid BY PROGRAM, IN A SANDBOX (cutbox-door.mjs). By AI agents, Wed Nov 11 2026. No macro, syntax, notation, axiom, sorry.
-/
import Derived.Test.YtpbiminbhihjnaaDoorRows
import GoSem.ClaimSeven
namespace Go.Proofs.YtpbiminbhihjnaaDoor
namespace Rows

/-- THE TIED CARD OF 'pomadelaw04.MirrorNeeds'. -/
def mirrorNeedsCard : Claim7 := { stood := { row := mirrorNeedsRow, standIns := [], harness := (true, "38dfd0435eb84e11830a06bde8a28970a2ee26761e9040912e4c4537c501a9e7"), looks := false }, kinds := [], alts := [], laidByText := true, laidKinds := [.data, .data, .pinned], laidTests := true, laidLooks := .later }
def MirrorNeedsCardSaid : Prop := Claim7.holds Tryd.pinned (.plain (OpenSpec.ofChange mirrorNeedsSpec)) mirrorNeedsCard

/-- THE TIED CARD OF 'pomadelaw04.MirrorPlayed'. -/
def mirrorPlayedCard : Claim7 := { stood := { row := mirrorPlayedRow, standIns := [], harness := (true, "38dfd0435eb84e11830a06bde8a28970a2ee26761e9040912e4c4537c501a9e7"), looks := false }, kinds := [], alts := [], laidByText := true, laidKinds := [.data, .data, .pinned], laidTests := true, laidLooks := .later }
def MirrorPlayedCardSaid : Prop := Claim7.holds Tryd.pinned (.plain (OpenSpec.ofChange mirrorPlayedSpec)) mirrorPlayedCard

/-- THE TIED CARD OF 'pomadelaw04.MirrorFlipped'. -/
def mirrorFlippedCard : Claim7 := { stood := { row := mirrorFlippedRow, standIns := [], harness := (true, "38dfd0435eb84e11830a06bde8a28970a2ee26761e9040912e4c4537c501a9e7"), looks := false }, kinds := [], alts := [], laidByText := true, laidKinds := [.data, .data, .pinned], laidTests := true, laidLooks := .later }
def MirrorFlippedCardSaid : Prop := Claim7.holds Tryd.pinned (.plain (OpenSpec.ofChange mirrorFlippedSpec)) mirrorFlippedCard

/-- THE TIED CARD OF 'pomadelaw04.MirrorMore'. -/
def mirrorMoreCard : Claim7 := { stood := { row := mirrorMoreRow, standIns := [], harness := (true, "38dfd0435eb84e11830a06bde8a28970a2ee26761e9040912e4c4537c501a9e7"), looks := false }, kinds := [], alts := [], laidByText := true, laidKinds := [.data, .data, .pinned], laidTests := true, laidLooks := .later }
def MirrorMoreCardSaid : Prop := Claim7.holds Tryd.pinned (.plain (OpenSpec.ofChange mirrorMoreSpec)) mirrorMoreCard

/-- THE TIED CARD OF 'pomadelaw04.MirrorFull'. -/
def mirrorFullCard : Claim7 := { stood := { row := mirrorFullRow, standIns := [], harness := (true, "38dfd0435eb84e11830a06bde8a28970a2ee26761e9040912e4c4537c501a9e7"), looks := false }, kinds := [], alts := [], laidByText := true, laidKinds := [.data, .data, .pinned], laidTests := true, laidLooks := .later }
def MirrorFullCardSaid : Prop := Claim7.holds Tryd.pinned (.plain (OpenSpec.ofChange mirrorFullSpec)) mirrorFullCard

/-- THE TIED CARD OF 'pomadelaw04.MirrorTurned'. -/
def mirrorTurnedCard : Claim7 := { stood := { row := mirrorTurnedRow, standIns := [], harness := (true, "38dfd0435eb84e11830a06bde8a28970a2ee26761e9040912e4c4537c501a9e7"), looks := false }, kinds := [], alts := [], laidByText := true, laidKinds := [.data, .data, .pinned], laidTests := true, laidLooks := .later }
def MirrorTurnedCardSaid : Prop := Claim7.holds Tryd.pinned (.plain (OpenSpec.ofChange mirrorTurnedSpec)) mirrorTurnedCard

/-- THE TIED CARD OF 'pomadelaw04.MirrorWinners'. -/
def mirrorWinnersCard : Claim7 := { stood := { row := mirrorWinnersRow, standIns := [], harness := (true, "38dfd0435eb84e11830a06bde8a28970a2ee26761e9040912e4c4537c501a9e7"), looks := false }, kinds := [], alts := [], laidByText := true, laidKinds := [.data, .data, .pinned], laidTests := true, laidLooks := .later }
def MirrorWinnersCardSaid : Prop := Claim7.holds Tryd.pinned (.plain (OpenSpec.ofChange mirrorWinnersSpec)) mirrorWinnersCard

/-- THE TIED CARD OF 'pomadelaw04.MirrorHex'. -/
def mirrorHexCard : Claim7 := { stood := { row := mirrorHexRow, standIns := [], harness := (true, "38dfd0435eb84e11830a06bde8a28970a2ee26761e9040912e4c4537c501a9e7"), looks := false }, kinds := [], alts := [], laidByText := true, laidKinds := [.data, .data, .pinned], laidTests := true, laidLooks := .later }
def MirrorHexCardSaid : Prop := Claim7.holds Tryd.pinned (.plain (OpenSpec.ofChange mirrorHexSpec)) mirrorHexCard

/-- THE TIED CARD OF 'pomadelaw04.MirrorDoors'. -/
def mirrorDoorsCard : Claim7 := { stood := { row := mirrorDoorsRow, standIns := [], harness := (true, "38dfd0435eb84e11830a06bde8a28970a2ee26761e9040912e4c4537c501a9e7"), looks := false }, kinds := [], alts := [], laidByText := true, laidKinds := [.data, .data, .pinned], laidTests := true, laidLooks := .later }
def MirrorDoorsCardSaid : Prop := Claim7.holds Tryd.pinned (.plain (OpenSpec.ofChange mirrorDoorsSpec)) mirrorDoorsCard

/-- THE TIED CARD OF 'pomadelaw04.MirrorBorder'. -/
def mirrorBorderCard : Claim7 := { stood := { row := mirrorBorderRow, standIns := [], harness := (true, "38dfd0435eb84e11830a06bde8a28970a2ee26761e9040912e4c4537c501a9e7"), looks := false }, kinds := [], alts := [], laidByText := true, laidKinds := [.data, .data, .pinned], laidTests := true, laidLooks := .later }
def MirrorBorderCardSaid : Prop := Claim7.holds Tryd.pinned (.plain (OpenSpec.ofChange mirrorBorderSpec)) mirrorBorderCard

/-- THE TIED CARD OF 'pomadelaw04.MirrorWalks'. -/
def mirrorWalksCard : Claim7 := { stood := { row := mirrorWalksRow, standIns := [], harness := (true, "38dfd0435eb84e11830a06bde8a28970a2ee26761e9040912e4c4537c501a9e7"), looks := false }, kinds := [], alts := [], laidByText := true, laidKinds := [.data, .data, .pinned], laidTests := true, laidLooks := .later }
def MirrorWalksCardSaid : Prop := Claim7.holds Tryd.pinned (.plain (OpenSpec.ofChange mirrorWalksSpec)) mirrorWalksCard

/-- THE TIED CARD OF 'pomadelaw04.MirrorSperner'. -/
def mirrorSpernerCard : Claim7 := { stood := { row := mirrorSpernerRow, standIns := [], harness := (true, "38dfd0435eb84e11830a06bde8a28970a2ee26761e9040912e4c4537c501a9e7"), looks := false }, kinds := [], alts := [], laidByText := true, laidKinds := [.data, .data, .pinned], laidTests := true, laidLooks := .later }
def MirrorSpernerCardSaid : Prop := Claim7.holds Tryd.pinned (.plain (OpenSpec.ofChange mirrorSpernerSpec)) mirrorSpernerCard

/-- THE SECOND FORM's CARD OF 'pomadelaw04.MirrorNeeds'. -/
def mirrorNeedsUptoCard : Claim7 := { stood := { row := mirrorNeedsUptoRow, standIns := [], harness := (true, "38dfd0435eb84e11830a06bde8a28970a2ee26761e9040912e4c4537c501a9e7"), looks := false }, kinds := [], alts := [], laidByText := true, laidKinds := [.data, .data, .pinned], laidTests := true, laidLooks := .later }
def MirrorNeedsUptoCardSaid : Prop := Claim7.holds Tryd.pinned (.plain (OpenSpec.upto mirrorNeedsSpec)) mirrorNeedsUptoCard

/-- THE SECOND FORM's CARD OF 'pomadelaw04.MirrorPlayed'. -/
def mirrorPlayedUptoCard : Claim7 := { stood := { row := mirrorPlayedUptoRow, standIns := [], harness := (true, "38dfd0435eb84e11830a06bde8a28970a2ee26761e9040912e4c4537c501a9e7"), looks := false }, kinds := [], alts := [], laidByText := true, laidKinds := [.data, .data, .pinned], laidTests := true, laidLooks := .later }
def MirrorPlayedUptoCardSaid : Prop := Claim7.holds Tryd.pinned (.plain (OpenSpec.upto mirrorPlayedSpec)) mirrorPlayedUptoCard

/-- THE SECOND FORM's CARD OF 'pomadelaw04.MirrorFlipped'. -/
def mirrorFlippedUptoCard : Claim7 := { stood := { row := mirrorFlippedUptoRow, standIns := [], harness := (true, "38dfd0435eb84e11830a06bde8a28970a2ee26761e9040912e4c4537c501a9e7"), looks := false }, kinds := [], alts := [], laidByText := true, laidKinds := [.data, .data, .pinned], laidTests := true, laidLooks := .later }
def MirrorFlippedUptoCardSaid : Prop := Claim7.holds Tryd.pinned (.plain (OpenSpec.upto mirrorFlippedSpec)) mirrorFlippedUptoCard

/-- THE SECOND FORM's CARD OF 'pomadelaw04.MirrorMore'. -/
def mirrorMoreUptoCard : Claim7 := { stood := { row := mirrorMoreUptoRow, standIns := [], harness := (true, "38dfd0435eb84e11830a06bde8a28970a2ee26761e9040912e4c4537c501a9e7"), looks := false }, kinds := [], alts := [], laidByText := true, laidKinds := [.data, .data, .pinned], laidTests := true, laidLooks := .later }
def MirrorMoreUptoCardSaid : Prop := Claim7.holds Tryd.pinned (.plain (OpenSpec.upto mirrorMoreSpec)) mirrorMoreUptoCard

/-- THE SECOND FORM's CARD OF 'pomadelaw04.MirrorFull'. -/
def mirrorFullUptoCard : Claim7 := { stood := { row := mirrorFullUptoRow, standIns := [], harness := (true, "38dfd0435eb84e11830a06bde8a28970a2ee26761e9040912e4c4537c501a9e7"), looks := false }, kinds := [], alts := [], laidByText := true, laidKinds := [.data, .data, .pinned], laidTests := true, laidLooks := .later }
def MirrorFullUptoCardSaid : Prop := Claim7.holds Tryd.pinned (.plain (OpenSpec.upto mirrorFullSpec)) mirrorFullUptoCard

/-- THE SECOND FORM's CARD OF 'pomadelaw04.MirrorTurned'. -/
def mirrorTurnedUptoCard : Claim7 := { stood := { row := mirrorTurnedUptoRow, standIns := [], harness := (true, "38dfd0435eb84e11830a06bde8a28970a2ee26761e9040912e4c4537c501a9e7"), looks := false }, kinds := [], alts := [], laidByText := true, laidKinds := [.data, .data, .pinned], laidTests := true, laidLooks := .later }
def MirrorTurnedUptoCardSaid : Prop := Claim7.holds Tryd.pinned (.plain (OpenSpec.upto mirrorTurnedSpec)) mirrorTurnedUptoCard

/-- THE SECOND FORM's CARD OF 'pomadelaw04.MirrorWinners'. -/
def mirrorWinnersUptoCard : Claim7 := { stood := { row := mirrorWinnersUptoRow, standIns := [], harness := (true, "38dfd0435eb84e11830a06bde8a28970a2ee26761e9040912e4c4537c501a9e7"), looks := false }, kinds := [], alts := [], laidByText := true, laidKinds := [.data, .data, .pinned], laidTests := true, laidLooks := .later }
def MirrorWinnersUptoCardSaid : Prop := Claim7.holds Tryd.pinned (.plain (OpenSpec.upto mirrorWinnersSpec)) mirrorWinnersUptoCard

/-- THE SECOND FORM's CARD OF 'pomadelaw04.MirrorHex'. -/
def mirrorHexUptoCard : Claim7 := { stood := { row := mirrorHexUptoRow, standIns := [], harness := (true, "38dfd0435eb84e11830a06bde8a28970a2ee26761e9040912e4c4537c501a9e7"), looks := false }, kinds := [], alts := [], laidByText := true, laidKinds := [.data, .data, .pinned], laidTests := true, laidLooks := .later }
def MirrorHexUptoCardSaid : Prop := Claim7.holds Tryd.pinned (.plain (OpenSpec.upto mirrorHexSpec)) mirrorHexUptoCard

/-- THE SECOND FORM's CARD OF 'pomadelaw04.MirrorDoors'. -/
def mirrorDoorsUptoCard : Claim7 := { stood := { row := mirrorDoorsUptoRow, standIns := [], harness := (true, "38dfd0435eb84e11830a06bde8a28970a2ee26761e9040912e4c4537c501a9e7"), looks := false }, kinds := [], alts := [], laidByText := true, laidKinds := [.data, .data, .pinned], laidTests := true, laidLooks := .later }
def MirrorDoorsUptoCardSaid : Prop := Claim7.holds Tryd.pinned (.plain (OpenSpec.upto mirrorDoorsSpec)) mirrorDoorsUptoCard

/-- THE SECOND FORM's CARD OF 'pomadelaw04.MirrorBorder'. -/
def mirrorBorderUptoCard : Claim7 := { stood := { row := mirrorBorderUptoRow, standIns := [], harness := (true, "38dfd0435eb84e11830a06bde8a28970a2ee26761e9040912e4c4537c501a9e7"), looks := false }, kinds := [], alts := [], laidByText := true, laidKinds := [.data, .data, .pinned], laidTests := true, laidLooks := .later }
def MirrorBorderUptoCardSaid : Prop := Claim7.holds Tryd.pinned (.plain (OpenSpec.upto mirrorBorderSpec)) mirrorBorderUptoCard

/-- THE SECOND FORM's CARD OF 'pomadelaw04.MirrorWalks'. -/
def mirrorWalksUptoCard : Claim7 := { stood := { row := mirrorWalksUptoRow, standIns := [], harness := (true, "38dfd0435eb84e11830a06bde8a28970a2ee26761e9040912e4c4537c501a9e7"), looks := false }, kinds := [], alts := [], laidByText := true, laidKinds := [.data, .data, .pinned], laidTests := true, laidLooks := .later }
def MirrorWalksUptoCardSaid : Prop := Claim7.holds Tryd.pinned (.plain (OpenSpec.upto mirrorWalksSpec)) mirrorWalksUptoCard

/-- THE SECOND FORM's CARD OF 'pomadelaw04.MirrorSperner'. -/
def mirrorSpernerUptoCard : Claim7 := { stood := { row := mirrorSpernerUptoRow, standIns := [], harness := (true, "38dfd0435eb84e11830a06bde8a28970a2ee26761e9040912e4c4537c501a9e7"), looks := false }, kinds := [], alts := [], laidByText := true, laidKinds := [.data, .data, .pinned], laidTests := true, laidLooks := .later }
def MirrorSpernerUptoCardSaid : Prop := Claim7.holds Tryd.pinned (.plain (OpenSpec.upto mirrorSpernerSpec)) mirrorSpernerUptoCard
end Rows
end Go.Proofs.YtpbiminbhihjnaaDoor
