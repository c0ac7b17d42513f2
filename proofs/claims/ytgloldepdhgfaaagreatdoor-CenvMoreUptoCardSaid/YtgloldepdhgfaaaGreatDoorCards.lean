/-
  DERIVED. GIVEN WITH THE SEED: THE CARDS: each row of YtgloldepdhgfaaaGreatDoorRows.lean that lists a variable, with what it lists TIED to the program's text (the seventh form; the later family's looks); each row that meets fmt, with fmt's text TOLD by the authors' own Lean function (tested against real Go, not proved from fmt's source: count such statements apart). THE CARD IS WHAT COUNTS. Prove the row's statement (the work); the ties are given (YtgloldepdhgfaaaGreatDoorTie.lean); close each card by the builder's one call (the guide's Derived/Test/ToyasCard.lean, 'card_holds'). Laid BY PROGRAM, IN A SANDBOX (cutbox-door.mjs). By AI agents, Wed Nov 11 2026. No macro, syntax, notation, axiom, sorry.
-/
import Derived.Test.YtgloldepdhgfaaaGreatDoorRows
import GoSem.ClaimSeven
namespace Go.Proofs.YtgloldepdhgfaaaGreatDoor
namespace Rows

/-- THE TIED CARD OF 'spandrellaw07.NormKids'. -/
def normKidsCard : Claim7 := { stood := { row := normKidsRow, standIns := [], harness := (true, "7e83cb77b1cbf2ddf64fe51e262252a3695ca38d12c1e21c6adbd76c65731791"), looks := true }, kinds := [], alts := [], laidByText := true, laidKinds := [.data], laidTests := true, laidLooks := .later }
def NormKidsCardSaid : Prop := Claim7.holds Tryz.pinned (.plain (OpenSpec.ofChange normKidsSpec)) normKidsCard

/-- THE TIED CARD OF 'spandrellaw07.NormOne'. -/
def normOneCard : Claim7 := { stood := { row := normOneRow, standIns := [], harness := (true, "7e83cb77b1cbf2ddf64fe51e262252a3695ca38d12c1e21c6adbd76c65731791"), looks := true }, kinds := [], alts := [], laidByText := true, laidKinds := [.data], laidTests := true, laidLooks := .later }
def NormOneCardSaid : Prop := Claim7.holds Tryz.pinned (.plain (OpenSpec.ofChange normOneSpec)) normOneCard

/-- THE TIED CARD OF 'spandrellaw10.CenvAll'. -/
def cenvAllCard : Claim7 := { stood := { row := cenvAllRow, standIns := [], harness := (true, "7e83cb77b1cbf2ddf64fe51e262252a3695ca38d12c1e21c6adbd76c65731791"), looks := true }, kinds := [], alts := [], laidByText := true, laidKinds := [.data], laidTests := true, laidLooks := .later }
def CenvAllCardSaid : Prop := Claim7.holds Tryz.pinned (.plain (OpenSpec.ofChange cenvAllSpec)) cenvAllCard

/-- THE TIED CARD OF 'spandrellaw10.CenvMore'. -/
def cenvMoreCard : Claim7 := { stood := { row := cenvMoreRow, standIns := [], harness := (true, "7e83cb77b1cbf2ddf64fe51e262252a3695ca38d12c1e21c6adbd76c65731791"), looks := true }, kinds := [], alts := [], laidByText := true, laidKinds := [.data], laidTests := true, laidLooks := .later }
def CenvMoreCardSaid : Prop := Claim7.holds Tryz.pinned (.plain (OpenSpec.ofChange cenvMoreSpec)) cenvMoreCard

/-- THE TIED CARD OF 'spandrellaw09.InferChecks'. -/
def inferChecksCard : Claim7 := { stood := { row := inferChecksRow, standIns := [], harness := (true, "7e83cb77b1cbf2ddf64fe51e262252a3695ca38d12c1e21c6adbd76c65731791"), looks := true }, kinds := [], alts := [], laidByText := true, laidKinds := [.data], laidTests := true, laidLooks := .later }
def InferChecksCardSaid : Prop := Claim7.holds Tryz.pinned (.plain (OpenSpec.ofChange inferChecksSpec)) inferChecksCard

/-- THE TIED CARD OF 'spandrellaw09.InferSorts'. -/
def inferSortsCard : Claim7 := { stood := { row := inferSortsRow, standIns := [], harness := (true, "7e83cb77b1cbf2ddf64fe51e262252a3695ca38d12c1e21c6adbd76c65731791"), looks := true }, kinds := [], alts := [], laidByText := true, laidKinds := [.data], laidTests := true, laidLooks := .later }
def InferSortsCardSaid : Prop := Claim7.holds Tryz.pinned (.plain (OpenSpec.ofChange inferSortsSpec)) inferSortsCard

/-- THE SECOND FORM's CARD OF 'spandrellaw07.NormKids'. -/
def normKidsUptoCard : Claim7 := { stood := { row := normKidsUptoRow, standIns := [], harness := (true, "7e83cb77b1cbf2ddf64fe51e262252a3695ca38d12c1e21c6adbd76c65731791"), looks := true }, kinds := [], alts := [], laidByText := true, laidKinds := [.data], laidTests := true, laidLooks := .later }
def NormKidsUptoCardSaid : Prop := Claim7.holds Tryz.pinned (.plain (OpenSpec.upto normKidsSpec)) normKidsUptoCard

/-- THE SECOND FORM's CARD OF 'spandrellaw07.NormOne'. -/
def normOneUptoCard : Claim7 := { stood := { row := normOneUptoRow, standIns := [], harness := (true, "7e83cb77b1cbf2ddf64fe51e262252a3695ca38d12c1e21c6adbd76c65731791"), looks := true }, kinds := [], alts := [], laidByText := true, laidKinds := [.data], laidTests := true, laidLooks := .later }
def NormOneUptoCardSaid : Prop := Claim7.holds Tryz.pinned (.plain (OpenSpec.upto normOneSpec)) normOneUptoCard

/-- THE SECOND FORM's CARD OF 'spandrellaw10.CenvAll'. -/
def cenvAllUptoCard : Claim7 := { stood := { row := cenvAllUptoRow, standIns := [], harness := (true, "7e83cb77b1cbf2ddf64fe51e262252a3695ca38d12c1e21c6adbd76c65731791"), looks := true }, kinds := [], alts := [], laidByText := true, laidKinds := [.data], laidTests := true, laidLooks := .later }
def CenvAllUptoCardSaid : Prop := Claim7.holds Tryz.pinned (.plain (OpenSpec.upto cenvAllSpec)) cenvAllUptoCard

/-- THE SECOND FORM's CARD OF 'spandrellaw10.CenvMore'. -/
def cenvMoreUptoCard : Claim7 := { stood := { row := cenvMoreUptoRow, standIns := [], harness := (true, "7e83cb77b1cbf2ddf64fe51e262252a3695ca38d12c1e21c6adbd76c65731791"), looks := true }, kinds := [], alts := [], laidByText := true, laidKinds := [.data], laidTests := true, laidLooks := .later }
def CenvMoreUptoCardSaid : Prop := Claim7.holds Tryz.pinned (.plain (OpenSpec.upto cenvMoreSpec)) cenvMoreUptoCard

/-- THE SECOND FORM's CARD OF 'spandrellaw09.InferChecks'. -/
def inferChecksUptoCard : Claim7 := { stood := { row := inferChecksUptoRow, standIns := [], harness := (true, "7e83cb77b1cbf2ddf64fe51e262252a3695ca38d12c1e21c6adbd76c65731791"), looks := true }, kinds := [], alts := [], laidByText := true, laidKinds := [.data], laidTests := true, laidLooks := .later }
def InferChecksUptoCardSaid : Prop := Claim7.holds Tryz.pinned (.plain (OpenSpec.upto inferChecksSpec)) inferChecksUptoCard

/-- THE SECOND FORM's CARD OF 'spandrellaw09.InferSorts'. -/
def inferSortsUptoCard : Claim7 := { stood := { row := inferSortsUptoRow, standIns := [], harness := (true, "7e83cb77b1cbf2ddf64fe51e262252a3695ca38d12c1e21c6adbd76c65731791"), looks := true }, kinds := [], alts := [], laidByText := true, laidKinds := [.data], laidTests := true, laidLooks := .later }
def InferSortsUptoCardSaid : Prop := Claim7.holds Tryz.pinned (.plain (OpenSpec.upto inferSortsSpec)) inferSortsUptoCard
end Rows
end Go.Proofs.YtgloldepdhgfaaaGreatDoor
