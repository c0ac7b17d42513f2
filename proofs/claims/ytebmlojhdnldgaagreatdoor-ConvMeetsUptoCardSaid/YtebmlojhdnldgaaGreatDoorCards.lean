/-
  DERIVED. GIVEN WITH THE SEED: THE CARDS: each row of YtebmlojhdnldgaaGreatDoorRows.lean that lists a variable, with what it lists TIED to the program's text (the seventh form; the later family's looks); each row that meets fmt, with fmt's text TOLD by the authors' own Lean function (tested against real Go, not proved from fmt's source: count such statements apart). THE CARD IS WHAT COUNTS. Prove the row's statement (the work); the ties are given (YtebmlojhdnldgaaGreatDoorTie.lean); close each card by the builder's one call (the guide's Derived/Test/ToyasCard.lean, 'card_holds'). Laid BY PROGRAM, IN A SANDBOX (cutbox-door.mjs). By AI agents, Wed Nov 11 2026. No macro, syntax, notation, axiom, sorry.
-/
import Derived.Test.YtebmlojhdnldgaaGreatDoorRows
import GoSem.ClaimSeven
namespace Go.Proofs.YtebmlojhdnldgaaGreatDoor
namespace Rows

/-- THE TIED CARD OF 'spandrellaw07.NormKids'. -/
def normKidsCard : Claim7 := { stood := { row := normKidsRow, standIns := [], harness := (true, "fb6daa9357428cf6154cc6e6a868f71a6c98757a654cf0096f33d43bf4572d11"), looks := true }, kinds := [], alts := [], laidByText := true, laidKinds := [.data], laidTests := true, laidLooks := .later }
def NormKidsCardSaid : Prop := Claim7.holds Tryz.pinned (.plain (OpenSpec.ofChange normKidsSpec)) normKidsCard

/-- THE TIED CARD OF 'spandrellaw07.NormOne'. -/
def normOneCard : Claim7 := { stood := { row := normOneRow, standIns := [], harness := (true, "fb6daa9357428cf6154cc6e6a868f71a6c98757a654cf0096f33d43bf4572d11"), looks := true }, kinds := [], alts := [], laidByText := true, laidKinds := [.data], laidTests := true, laidLooks := .later }
def NormOneCardSaid : Prop := Claim7.holds Tryz.pinned (.plain (OpenSpec.ofChange normOneSpec)) normOneCard

/-- THE TIED CARD OF 'spandrellaw06.HeadRight'. -/
def headRightCard : Claim7 := { stood := { row := headRightRow, standIns := [], harness := (true, "fb6daa9357428cf6154cc6e6a868f71a6c98757a654cf0096f33d43bf4572d11"), looks := true }, kinds := [], alts := [], laidByText := true, laidKinds := [.data], laidTests := true, laidLooks := .later }
def HeadRightCardSaid : Prop := Claim7.holds Tryz.pinned (.plain (OpenSpec.ofChange headRightSpec)) headRightCard

/-- THE TIED CARD OF 'spandrellaw08.ConvMost'. -/
def convMostCard : Claim7 := { stood := { row := convMostRow, standIns := [], harness := (true, "fb6daa9357428cf6154cc6e6a868f71a6c98757a654cf0096f33d43bf4572d11"), looks := true }, kinds := [], alts := [], laidByText := true, laidKinds := [.data], laidTests := true, laidLooks := .later }
def ConvMostCardSaid : Prop := Claim7.holds Tryz.pinned (.plain (OpenSpec.ofChange convMostSpec)) convMostCard

/-- THE TIED CARD OF 'spandrellaw08.ConvMeets'. -/
def convMeetsCard : Claim7 := { stood := { row := convMeetsRow, standIns := [], harness := (true, "fb6daa9357428cf6154cc6e6a868f71a6c98757a654cf0096f33d43bf4572d11"), looks := true }, kinds := [], alts := [], laidByText := true, laidKinds := [.data], laidTests := true, laidLooks := .later }
def ConvMeetsCardSaid : Prop := Claim7.holds Tryz.pinned (.plain (OpenSpec.ofChange convMeetsSpec)) convMeetsCard

/-- THE SECOND FORM's CARD OF 'spandrellaw07.NormKids'. -/
def normKidsUptoCard : Claim7 := { stood := { row := normKidsUptoRow, standIns := [], harness := (true, "fb6daa9357428cf6154cc6e6a868f71a6c98757a654cf0096f33d43bf4572d11"), looks := true }, kinds := [], alts := [], laidByText := true, laidKinds := [.data], laidTests := true, laidLooks := .later }
def NormKidsUptoCardSaid : Prop := Claim7.holds Tryz.pinned (.plain (OpenSpec.upto normKidsSpec)) normKidsUptoCard

/-- THE SECOND FORM's CARD OF 'spandrellaw07.NormOne'. -/
def normOneUptoCard : Claim7 := { stood := { row := normOneUptoRow, standIns := [], harness := (true, "fb6daa9357428cf6154cc6e6a868f71a6c98757a654cf0096f33d43bf4572d11"), looks := true }, kinds := [], alts := [], laidByText := true, laidKinds := [.data], laidTests := true, laidLooks := .later }
def NormOneUptoCardSaid : Prop := Claim7.holds Tryz.pinned (.plain (OpenSpec.upto normOneSpec)) normOneUptoCard

/-- THE SECOND FORM's CARD OF 'spandrellaw06.HeadRight'. -/
def headRightUptoCard : Claim7 := { stood := { row := headRightUptoRow, standIns := [], harness := (true, "fb6daa9357428cf6154cc6e6a868f71a6c98757a654cf0096f33d43bf4572d11"), looks := true }, kinds := [], alts := [], laidByText := true, laidKinds := [.data], laidTests := true, laidLooks := .later }
def HeadRightUptoCardSaid : Prop := Claim7.holds Tryz.pinned (.plain (OpenSpec.upto headRightSpec)) headRightUptoCard

/-- THE SECOND FORM's CARD OF 'spandrellaw08.ConvMost'. -/
def convMostUptoCard : Claim7 := { stood := { row := convMostUptoRow, standIns := [], harness := (true, "fb6daa9357428cf6154cc6e6a868f71a6c98757a654cf0096f33d43bf4572d11"), looks := true }, kinds := [], alts := [], laidByText := true, laidKinds := [.data], laidTests := true, laidLooks := .later }
def ConvMostUptoCardSaid : Prop := Claim7.holds Tryz.pinned (.plain (OpenSpec.upto convMostSpec)) convMostUptoCard

/-- THE SECOND FORM's CARD OF 'spandrellaw08.ConvMeets'. -/
def convMeetsUptoCard : Claim7 := { stood := { row := convMeetsUptoRow, standIns := [], harness := (true, "fb6daa9357428cf6154cc6e6a868f71a6c98757a654cf0096f33d43bf4572d11"), looks := true }, kinds := [], alts := [], laidByText := true, laidKinds := [.data], laidTests := true, laidLooks := .later }
def ConvMeetsUptoCardSaid : Prop := Claim7.holds Tryz.pinned (.plain (OpenSpec.upto convMeetsSpec)) convMeetsUptoCard
end Rows
end Go.Proofs.YtebmlojhdnldgaaGreatDoor
