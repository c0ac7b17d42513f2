/-
  DERIVED. GIVEN WITH THE SEED: THE CARDS: each row of YtebmlojhdnldgaaDoorRows.lean that lists a variable, with what it lists TIED to the program's text (the seventh form; the later family's looks); each row that meets fmt, with fmt's text TOLD by the authors' own Lean function (tested against real Go, not proved from fmt's source: count such statements apart). THE CARD IS WHAT COUNTS. Prove the row's statement (the work); the ties are given (YtebmlojhdnldgaaDoorTie.lean); close each card by the builder's one call (the guide's Derived/Test/ToyasCard.lean, 'card_holds'). Laid BY PROGRAM, IN A SANDBOX (cutbox-door.mjs). By AI agents, Wed Nov 11 2026. No macro, syntax, notation, axiom, sorry.
-/
import Derived.Test.YtebmlojhdnldgaaDoorRows
import GoSem.ClaimSeven
namespace Go.Proofs.YtebmlojhdnldgaaDoor
namespace Rows

/-- THE TIED CARD OF 'spandrellaw03.PackRound'. -/
def packRoundCard : Claim7 := { stood := { row := packRoundRow, standIns := [], harness := (true, "0b0ef260727eb56251a08ffde3a48804b1817baf0bfa1692cf1db854e9f78260"), looks := true }, kinds := [], alts := [], laidByText := true, laidKinds := [.data], laidTests := true, laidLooks := .later }
def PackRoundCardSaid : Prop := Claim7.holds Tryd.pinned (.plain (OpenSpec.ofChange packRoundSpec)) packRoundCard

/-- THE TIED CARD OF 'spandrellaw03.PackRows'. -/
def packRowsCard : Claim7 := { stood := { row := packRowsRow, standIns := [], harness := (true, "0b0ef260727eb56251a08ffde3a48804b1817baf0bfa1692cf1db854e9f78260"), looks := true }, kinds := [], alts := [], laidByText := true, laidKinds := [.data], laidTests := true, laidLooks := .later }
def PackRowsCardSaid : Prop := Claim7.holds Tryd.pinned (.plain (OpenSpec.ofChange packRowsSpec)) packRowsCard

/-- THE TIED CARD OF 'spandrellaw02.TermLifts'. -/
def termLiftsCard : Claim7 := { stood := { row := termLiftsRow, standIns := [], harness := (true, "0b0ef260727eb56251a08ffde3a48804b1817baf0bfa1692cf1db854e9f78260"), looks := true }, kinds := [], alts := [], laidByText := true, laidKinds := [.data], laidTests := true, laidLooks := .later }
def TermLiftsCardSaid : Prop := Claim7.holds Tryd.pinned (.plain (OpenSpec.ofChange termLiftsSpec)) termLiftsCard

/-- THE TIED CARD OF 'spandrellaw05.CoreParts'. -/
def corePartsCard : Claim7 := { stood := { row := corePartsRow, standIns := [], harness := (true, "0b0ef260727eb56251a08ffde3a48804b1817baf0bfa1692cf1db854e9f78260"), looks := true }, kinds := [], alts := [], laidByText := true, laidKinds := [.data], laidTests := true, laidLooks := .later }
def CorePartsCardSaid : Prop := Claim7.holds Tryd.pinned (.plain (OpenSpec.ofChange corePartsSpec)) corePartsCard

/-- THE TIED CARD OF 'spandrellaw05.CoreKeeps'. -/
def coreKeepsCard : Claim7 := { stood := { row := coreKeepsRow, standIns := [], harness := (true, "0b0ef260727eb56251a08ffde3a48804b1817baf0bfa1692cf1db854e9f78260"), looks := true }, kinds := [], alts := [], laidByText := true, laidKinds := [.data], laidTests := true, laidLooks := .later }
def CoreKeepsCardSaid : Prop := Claim7.holds Tryd.pinned (.plain (OpenSpec.ofChange coreKeepsSpec)) coreKeepsCard

/-- THE TIED CARD OF 'spandrellaw06.HeadSteps'. -/
def headStepsCard : Claim7 := { stood := { row := headStepsRow, standIns := [], harness := (true, "0b0ef260727eb56251a08ffde3a48804b1817baf0bfa1692cf1db854e9f78260"), looks := true }, kinds := [], alts := [], laidByText := true, laidKinds := [.data], laidTests := true, laidLooks := .later }
def HeadStepsCardSaid : Prop := Claim7.holds Tryd.pinned (.plain (OpenSpec.ofChange headStepsSpec)) headStepsCard

/-- THE SECOND FORM's CARD OF 'spandrellaw03.PackRound'. -/
def packRoundUptoCard : Claim7 := { stood := { row := packRoundUptoRow, standIns := [], harness := (true, "0b0ef260727eb56251a08ffde3a48804b1817baf0bfa1692cf1db854e9f78260"), looks := true }, kinds := [], alts := [], laidByText := true, laidKinds := [.data], laidTests := true, laidLooks := .later }
def PackRoundUptoCardSaid : Prop := Claim7.holds Tryd.pinned (.plain (OpenSpec.upto packRoundSpec)) packRoundUptoCard

/-- THE SECOND FORM's CARD OF 'spandrellaw03.PackRows'. -/
def packRowsUptoCard : Claim7 := { stood := { row := packRowsUptoRow, standIns := [], harness := (true, "0b0ef260727eb56251a08ffde3a48804b1817baf0bfa1692cf1db854e9f78260"), looks := true }, kinds := [], alts := [], laidByText := true, laidKinds := [.data], laidTests := true, laidLooks := .later }
def PackRowsUptoCardSaid : Prop := Claim7.holds Tryd.pinned (.plain (OpenSpec.upto packRowsSpec)) packRowsUptoCard

/-- THE SECOND FORM's CARD OF 'spandrellaw02.TermLifts'. -/
def termLiftsUptoCard : Claim7 := { stood := { row := termLiftsUptoRow, standIns := [], harness := (true, "0b0ef260727eb56251a08ffde3a48804b1817baf0bfa1692cf1db854e9f78260"), looks := true }, kinds := [], alts := [], laidByText := true, laidKinds := [.data], laidTests := true, laidLooks := .later }
def TermLiftsUptoCardSaid : Prop := Claim7.holds Tryd.pinned (.plain (OpenSpec.upto termLiftsSpec)) termLiftsUptoCard

/-- THE SECOND FORM's CARD OF 'spandrellaw05.CoreParts'. -/
def corePartsUptoCard : Claim7 := { stood := { row := corePartsUptoRow, standIns := [], harness := (true, "0b0ef260727eb56251a08ffde3a48804b1817baf0bfa1692cf1db854e9f78260"), looks := true }, kinds := [], alts := [], laidByText := true, laidKinds := [.data], laidTests := true, laidLooks := .later }
def CorePartsUptoCardSaid : Prop := Claim7.holds Tryd.pinned (.plain (OpenSpec.upto corePartsSpec)) corePartsUptoCard

/-- THE SECOND FORM's CARD OF 'spandrellaw05.CoreKeeps'. -/
def coreKeepsUptoCard : Claim7 := { stood := { row := coreKeepsUptoRow, standIns := [], harness := (true, "0b0ef260727eb56251a08ffde3a48804b1817baf0bfa1692cf1db854e9f78260"), looks := true }, kinds := [], alts := [], laidByText := true, laidKinds := [.data], laidTests := true, laidLooks := .later }
def CoreKeepsUptoCardSaid : Prop := Claim7.holds Tryd.pinned (.plain (OpenSpec.upto coreKeepsSpec)) coreKeepsUptoCard

/-- THE SECOND FORM's CARD OF 'spandrellaw06.HeadSteps'. -/
def headStepsUptoCard : Claim7 := { stood := { row := headStepsUptoRow, standIns := [], harness := (true, "0b0ef260727eb56251a08ffde3a48804b1817baf0bfa1692cf1db854e9f78260"), looks := true }, kinds := [], alts := [], laidByText := true, laidKinds := [.data], laidTests := true, laidLooks := .later }
def HeadStepsUptoCardSaid : Prop := Claim7.holds Tryd.pinned (.plain (OpenSpec.upto headStepsSpec)) headStepsUptoCard
end Rows
end Go.Proofs.YtebmlojhdnldgaaDoor
