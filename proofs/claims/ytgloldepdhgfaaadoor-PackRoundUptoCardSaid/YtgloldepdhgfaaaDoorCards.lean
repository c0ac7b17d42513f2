/-
  DERIVED. GIVEN WITH THE SEED: THE CARDS: each row of YtgloldepdhgfaaaDoorRows.lean that lists a variable, with what it lists TIED to the program's text (the seventh form; the later family's looks); each row that meets fmt, with fmt's text TOLD by the authors' own Lean function (tested against real Go, not proved from fmt's source: count such statements apart). THE CARD IS WHAT COUNTS. Prove the row's statement (the work); the ties are given (YtgloldepdhgfaaaDoorTie.lean); close each card by the builder's one call (the guide's Derived/Test/ToyasCard.lean, 'card_holds'). Laid BY PROGRAM, IN A SANDBOX (cutbox-door.mjs). By AI agents, Wed Nov 11 2026. No macro, syntax, notation, axiom, sorry.
-/
import Derived.Test.YtgloldepdhgfaaaDoorRows
import GoSem.ClaimSeven
namespace Go.Proofs.YtgloldepdhgfaaaDoor
namespace Rows

/-- THE TIED CARD OF 'spandrellaw03.PackRound'. -/
def packRoundCard : Claim7 := { stood := { row := packRoundRow, standIns := [], harness := (true, "a5b25dc1e019f5dcc66c5b0a3e22abe2fcfec8f5e8efb463b5b7d348986226aa"), looks := true }, kinds := [], alts := [], laidByText := true, laidKinds := [.data], laidTests := true, laidLooks := .later }
def PackRoundCardSaid : Prop := Claim7.holds Tryd.pinned (.plain (OpenSpec.ofChange packRoundSpec)) packRoundCard

/-- THE TIED CARD OF 'spandrellaw03.PackRows'. -/
def packRowsCard : Claim7 := { stood := { row := packRowsRow, standIns := [], harness := (true, "a5b25dc1e019f5dcc66c5b0a3e22abe2fcfec8f5e8efb463b5b7d348986226aa"), looks := true }, kinds := [], alts := [], laidByText := true, laidKinds := [.data], laidTests := true, laidLooks := .later }
def PackRowsCardSaid : Prop := Claim7.holds Tryd.pinned (.plain (OpenSpec.ofChange packRowsSpec)) packRowsCard

/-- THE SECOND FORM's CARD OF 'spandrellaw03.PackRound'. -/
def packRoundUptoCard : Claim7 := { stood := { row := packRoundUptoRow, standIns := [], harness := (true, "a5b25dc1e019f5dcc66c5b0a3e22abe2fcfec8f5e8efb463b5b7d348986226aa"), looks := true }, kinds := [], alts := [], laidByText := true, laidKinds := [.data], laidTests := true, laidLooks := .later }
def PackRoundUptoCardSaid : Prop := Claim7.holds Tryd.pinned (.plain (OpenSpec.upto packRoundSpec)) packRoundUptoCard

/-- THE SECOND FORM's CARD OF 'spandrellaw03.PackRows'. -/
def packRowsUptoCard : Claim7 := { stood := { row := packRowsUptoRow, standIns := [], harness := (true, "a5b25dc1e019f5dcc66c5b0a3e22abe2fcfec8f5e8efb463b5b7d348986226aa"), looks := true }, kinds := [], alts := [], laidByText := true, laidKinds := [.data], laidTests := true, laidLooks := .later }
def PackRowsUptoCardSaid : Prop := Claim7.holds Tryd.pinned (.plain (OpenSpec.upto packRowsSpec)) packRowsUptoCard
end Rows
end Go.Proofs.YtgloldepdhgfaaaDoor
