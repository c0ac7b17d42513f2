/-
  NARROWER THAN 'FOR EVERY INPUT', by the rows' own cells (each row's printed sentence says how): NormKids: loops, laid · NormOne: loops, laid · HeadRight: loops, laid · ConvMost: loops, laid · ConvMeets: loops, laid.
  DERIVED. THE GIVEN ROWS OF THIS SEAT. 5 by the template 'for every input the law returns true; each argument reads behind the call as it read before'; 0 by the template 'total and deterministic' (their statements: YtebmlojhdnldgaaGreatDoorTotals.lean).
  GIVEN WITH THE SEED: the statements are not yours to turn. If you find one false, say at which input.
  Laid BY PROGRAM, IN A SANDBOX (cutbox-rows.mjs): the forced cells as the released guide's own fill.sh prints them over the translation 2928f32472053666… (all of the seat's roots in one cut). By AI agents, Wed Nov 11 2026. No macro, syntax, notation, axiom, sorry.
-/
import Derived.Test.YtebmlojhdnldgaaGreatDoorChecked
import GoSem.Claim
import GoSem.ClaimJoined
import GoSem.ClaimMapViews
import Derived.JoinedTies
import Derived.KernelRfl
namespace Go.Proofs.YtebmlojhdnldgaaGreatDoor
/- THE CELL 'sum', in the pinned program and in every row, IS THE sha256 OF THE DUMP (.gsa) THAT YtebmlojhdnldgaaGreatDoorProg.lean LOADS. Nothing in Lean hashes anything: it is a label: what it is worth is what the hold of that sum in a sandbox is worth. -/
noncomputable def Tryz.pinned : Pinned := { name := "ytebmlojhdnldgaagreatdoor", sum := "2928f32472053666ecfca2bd8615dabfac7de07be09217106d2a935336bdc8ce", checked := Tryz.checked }
namespace Rows
def none {H : Type} : Left H := { results := [], args := [] }

/- WHAT THE LISTED PACKAGE-LEVEL VARIABLES READ AS WHEN THE CALL BEGINS. Each datum BY PROGRAM (the guide's laid-datum.mjs) off the statement by which the dump's own 'gosem.cut.vars' lays the variable. In a bare row this is a premise. The card (YtebmlojhdnldgaaGreatDoorCards.lean) ties it to the program's text. -/
def laid_spandrel_term_kinds {H : Type} : DataW H := .agg [.agg [.lit (.bool false), .lit (.bool false), .lit (.int .i64 0), .lit (.int .i64 0), .lit (.int .i64 0)], .agg [.lit (.bool true), .lit (.bool false), .lit (.int .i64 0), .lit (.int .i64 0), .lit (.int .i64 (-1))], .agg [.lit (.bool false), .lit (.bool false), .lit (.int .i64 1), .lit (.int .i64 0), .lit (.int .i64 (-1))], .agg [.lit (.bool true), .lit (.bool false), .lit (.int .i64 (-1)), .lit (.int .i64 0), .lit (.int .i64 (-1))], .agg [.lit (.bool false), .lit (.bool false), .lit (.int .i64 0), .lit (.int .i64 2), .lit (.int .i64 1)], .agg [.lit (.bool false), .lit (.bool false), .lit (.int .i64 0), .lit (.int .i64 2), .lit (.int .i64 1)], .agg [.lit (.bool false), .lit (.bool false), .lit (.int .i64 0), .lit (.int .i64 2), .lit (.int .i64 (-1))], .agg [.lit (.bool false), .lit (.bool false), .lit (.int .i64 0), .lit (.int .i64 3), .lit (.int .i64 2)], .agg [.lit (.bool true), .lit (.bool true), .lit (.int .i64 (-1)), .lit (.int .i64 0), .lit (.int .i64 (-1))], .agg [.lit (.bool true), .lit (.bool true), .lit (.int .i64 (-1)), .lit (.int .i64 0), .lit (.int .i64 (-1))], .agg [.lit (.bool true), .lit (.bool true), .lit (.int .i64 (-1)), .lit (.int .i64 0), .lit (.int .i64 (-1))], .agg [.lit (.bool false), .lit (.bool true), .lit (.int .i64 0), .lit (.int .i64 0), .lit (.int .i64 (-1))], .agg [.lit (.bool false), .lit (.bool false), .lit (.int .i64 0), .lit (.int .i64 2), .lit (.int .i64 1)], .agg [.lit (.bool false), .lit (.bool false), .lit (.int .i64 0), .lit (.int .i64 2), .lit (.int .i64 (-1))], .agg [.lit (.bool false), .lit (.bool false), .lit (.int .i64 0), .lit (.int .i64 1), .lit (.int .i64 (-1))], .agg [.lit (.bool false), .lit (.bool false), .lit (.int .i64 0), .lit (.int .i64 1), .lit (.int .i64 (-1))], .agg [.lit (.bool false), .lit (.bool false), .lit (.int .i64 0), .lit (.int .i64 2), .lit (.int .i64 1)], .agg [.lit (.bool false), .lit (.bool false), .lit (.int .i64 0), .lit (.int .i64 2), .lit (.int .i64 (-1))], .agg [.lit (.bool false), .lit (.bool false), .lit (.int .i64 0), .lit (.int .i64 5), .lit (.int .i64 1)], .agg [.lit (.bool false), .lit (.bool false), .lit (.int .i64 0), .lit (.int .i64 3), .lit (.int .i64 (-1))], .agg [.lit (.bool false), .lit (.bool false), .lit (.int .i64 0), .lit (.int .i64 0), .lit (.int .i64 (-1))], .agg [.lit (.bool false), .lit (.bool false), .lit (.int .i64 0), .lit (.int .i64 6), .lit (.int .i64 (-1))], .agg [.lit (.bool true), .lit (.bool false), .lit (.int .i64 0), .lit (.int .i64 0), .lit (.int .i64 (-1))], .agg [.lit (.bool true), .lit (.bool true), .lit (.int .i64 0), .lit (.int .i64 0), .lit (.int .i64 (-1))], .agg [.lit (.bool false), .lit (.bool true), .lit (.int .i64 0), .lit (.int .i64 2), .lit (.int .i64 (-1))]]

/-- 'spandrellaw07.NormKids': WHATEVER THE INPUT: true; the input reads as it did. -/
def normKidsSpec : ChangeSpec := { name := "normKids", fn := fun _ => fun
  | [d1, d2, d3, d4, d5] => { results := [.lit (.bool true)], args := [d1, d2, d3, d4, d5] }
  | _ => none }
def normKidsRow : OpenClaim := { program := "ytebmlojhdnldgaagreatdoor", sum := "2928f32472053666ecfca2bd8615dabfac7de07be09217106d2a935336bdc8ce", func := "spandrel/spandrellaw07.NormKids", spec := "normKids", unfollowed := true, recurses := true, named := ["spandrel/term.kinds"], loops := true, apart := false, laid := [("spandrel/term.kinds", laid_spandrel_term_kinds)] }
def NormKidsSaid : Prop := normKidsRow.holds Tryz.pinned (OpenSpec.ofChange normKidsSpec)

/-- ITS FALSE NEIGHBOUR: 'it returns false'. Refute it at one input. -/
def normKidsWrong : ChangeSpec := { name := "normKids", fn := fun _ => fun
  | [d1, d2, d3, d4, d5] => { results := [.lit (.bool false)], args := [d1, d2, d3, d4, d5] }
  | _ => none }
def NormKidsWrongFalsely : Prop := normKidsRow.holds Tryz.pinned (OpenSpec.ofChange normKidsWrong)

/-- 'spandrellaw07.NormOne': WHATEVER THE INPUT: true; the input reads as it did. -/
def normOneSpec : ChangeSpec := { name := "normOne", fn := fun _ => fun
  | [d1, d2, d3, d4, d5, d6] => { results := [.lit (.bool true)], args := [d1, d2, d3, d4, d5, d6] }
  | _ => none }
def normOneRow : OpenClaim := { program := "ytebmlojhdnldgaagreatdoor", sum := "2928f32472053666ecfca2bd8615dabfac7de07be09217106d2a935336bdc8ce", func := "spandrel/spandrellaw07.NormOne", spec := "normOne", unfollowed := true, recurses := true, named := ["spandrel/term.kinds"], loops := true, apart := false, laid := [("spandrel/term.kinds", laid_spandrel_term_kinds)] }
def NormOneSaid : Prop := normOneRow.holds Tryz.pinned (OpenSpec.ofChange normOneSpec)

/-- ITS FALSE NEIGHBOUR: 'it returns false'. Refute it at one input. -/
def normOneWrong : ChangeSpec := { name := "normOne", fn := fun _ => fun
  | [d1, d2, d3, d4, d5, d6] => { results := [.lit (.bool false)], args := [d1, d2, d3, d4, d5, d6] }
  | _ => none }
def NormOneWrongFalsely : Prop := normOneRow.holds Tryz.pinned (OpenSpec.ofChange normOneWrong)

/-- 'spandrellaw06.HeadRight': WHATEVER THE INPUT: true; the input reads as it did. -/
def headRightSpec : ChangeSpec := { name := "headRight", fn := fun _ => fun
  | [d1, d2, d3, d4] => { results := [.lit (.bool true)], args := [d1, d2, d3, d4] }
  | _ => none }
def headRightRow : OpenClaim := { program := "ytebmlojhdnldgaagreatdoor", sum := "2928f32472053666ecfca2bd8615dabfac7de07be09217106d2a935336bdc8ce", func := "spandrel/spandrellaw06.HeadRight", spec := "headRight", unfollowed := true, recurses := true, named := ["spandrel/term.kinds"], loops := true, apart := false, laid := [("spandrel/term.kinds", laid_spandrel_term_kinds)] }
def HeadRightSaid : Prop := headRightRow.holds Tryz.pinned (OpenSpec.ofChange headRightSpec)

/-- ITS FALSE NEIGHBOUR: 'it returns false'. Refute it at one input. -/
def headRightWrong : ChangeSpec := { name := "headRight", fn := fun _ => fun
  | [d1, d2, d3, d4] => { results := [.lit (.bool false)], args := [d1, d2, d3, d4] }
  | _ => none }
def HeadRightWrongFalsely : Prop := headRightRow.holds Tryz.pinned (OpenSpec.ofChange headRightWrong)

/-- 'spandrellaw08.ConvMost': WHATEVER THE INPUT: true; the input reads as it did. -/
def convMostSpec : ChangeSpec := { name := "convMost", fn := fun _ => fun
  | [d1, d2, d3, d4, d5] => { results := [.lit (.bool true)], args := [d1, d2, d3, d4, d5] }
  | _ => none }
def convMostRow : OpenClaim := { program := "ytebmlojhdnldgaagreatdoor", sum := "2928f32472053666ecfca2bd8615dabfac7de07be09217106d2a935336bdc8ce", func := "spandrel/spandrellaw08.ConvMost", spec := "convMost", unfollowed := true, recurses := true, named := ["spandrel/term.kinds"], loops := true, apart := false, laid := [("spandrel/term.kinds", laid_spandrel_term_kinds)] }
def ConvMostSaid : Prop := convMostRow.holds Tryz.pinned (OpenSpec.ofChange convMostSpec)

/-- ITS FALSE NEIGHBOUR: 'it returns false'. Refute it at one input. -/
def convMostWrong : ChangeSpec := { name := "convMost", fn := fun _ => fun
  | [d1, d2, d3, d4, d5] => { results := [.lit (.bool false)], args := [d1, d2, d3, d4, d5] }
  | _ => none }
def ConvMostWrongFalsely : Prop := convMostRow.holds Tryz.pinned (OpenSpec.ofChange convMostWrong)

/-- 'spandrellaw08.ConvMeets': WHATEVER THE INPUT: true; the input reads as it did. -/
def convMeetsSpec : ChangeSpec := { name := "convMeets", fn := fun _ => fun
  | [d1, d2, d3, d4, d5, d6, d7] => { results := [.lit (.bool true)], args := [d1, d2, d3, d4, d5, d6, d7] }
  | _ => none }
def convMeetsRow : OpenClaim := { program := "ytebmlojhdnldgaagreatdoor", sum := "2928f32472053666ecfca2bd8615dabfac7de07be09217106d2a935336bdc8ce", func := "spandrel/spandrellaw08.ConvMeets", spec := "convMeets", unfollowed := true, recurses := true, named := ["spandrel/term.kinds"], loops := true, apart := false, laid := [("spandrel/term.kinds", laid_spandrel_term_kinds)] }
def ConvMeetsSaid : Prop := convMeetsRow.holds Tryz.pinned (OpenSpec.ofChange convMeetsSpec)

/-- ITS FALSE NEIGHBOUR: 'it returns false'. Refute it at one input. -/
def convMeetsWrong : ChangeSpec := { name := "convMeets", fn := fun _ => fun
  | [d1, d2, d3, d4, d5, d6, d7] => { results := [.lit (.bool false)], args := [d1, d2, d3, d4, d5, d6, d7] }
  | _ => none }
def ConvMeetsWrongFalsely : Prop := convMeetsRow.holds Tryz.pinned (OpenSpec.ofChange convMeetsWrong)

/- THE SECOND FORM. 'bulk': how many values and letters a reading holds, each counted each time it is reached (what is shared counts as often as it is met; a slice's spare places count too). A statement '..UptoSaid' is the law's where the arguments, and the package variables that the reading takes, are together of bulk at most 1048576: NARROWER than '..Said'. Prove '..Said' where nothing that the law and all that it calls make is longer than what came in: it says more and counts as full. Else prove '..UptoSaid'. A law counts once. -/
mutual
def uptoBulk {H : Type} : DataW H → Nat
  | .lit (.string bytes) => bytes.length + 1
  | .lit _ => 1
  | .nil => 1
  | .ptr d => uptoBulk d + 1
  | .slice elems spare => uptoBulkAll elems + uptoBulkAll spare + 1
  | .agg parts => uptoBulkAll parts + 1
  | .iface _ d => uptoBulk d + 1
  | .map entries => uptoBulkEntries entries + 1
  | .held _ => 1
def uptoBulkAll {H : Type} : List (DataW H) → Nat
  | [] => 0
  | d :: r => uptoBulk d + uptoBulkAll r
def uptoBulkEntries {H : Type} : List (Lit × DataW H) → Nat
  | [] => 0
  | x :: r => uptoBulkEntry x + uptoBulkEntries r
def uptoBulkEntry {H : Type} : Lit × DataW H → Nat
  | (.string bytes, d) => bytes.length + uptoBulk d + 1
  | (_, d) => uptoBulk d + 1
 end
def uptoSmall : (H : Type) → List (DataW H) → Bool := fun _ ds => decide (uptoBulkAll ds ≤ 1048576)
def OpenSpec.upto (s : _root_.Go.ChangeSpec) : _root_.Go.OpenSpec := { _root_.Go.OpenSpec.ofChange s with cond := some uptoSmall }

/-- 'spandrellaw07.NormKids', WHERE WHAT IT READS IS OF BULK AT MOST 1048576: true; the input reads as it did. -/
def normKidsUptoRow : OpenClaim := { program := "ytebmlojhdnldgaagreatdoor", sum := "2928f32472053666ecfca2bd8615dabfac7de07be09217106d2a935336bdc8ce", func := "spandrel/spandrellaw07.NormKids", spec := "normKids", unfollowed := true, recurses := true, named := ["spandrel/term.kinds"], loops := true, apart := false, laid := [("spandrel/term.kinds", laid_spandrel_term_kinds)], narrowed := true }
def NormKidsUptoSaid : Prop := normKidsUptoRow.holds Tryz.pinned (OpenSpec.upto normKidsSpec)

/-- 'spandrellaw07.NormOne', WHERE WHAT IT READS IS OF BULK AT MOST 1048576: true; the input reads as it did. -/
def normOneUptoRow : OpenClaim := { program := "ytebmlojhdnldgaagreatdoor", sum := "2928f32472053666ecfca2bd8615dabfac7de07be09217106d2a935336bdc8ce", func := "spandrel/spandrellaw07.NormOne", spec := "normOne", unfollowed := true, recurses := true, named := ["spandrel/term.kinds"], loops := true, apart := false, laid := [("spandrel/term.kinds", laid_spandrel_term_kinds)], narrowed := true }
def NormOneUptoSaid : Prop := normOneUptoRow.holds Tryz.pinned (OpenSpec.upto normOneSpec)

/-- 'spandrellaw06.HeadRight', WHERE WHAT IT READS IS OF BULK AT MOST 1048576: true; the input reads as it did. -/
def headRightUptoRow : OpenClaim := { program := "ytebmlojhdnldgaagreatdoor", sum := "2928f32472053666ecfca2bd8615dabfac7de07be09217106d2a935336bdc8ce", func := "spandrel/spandrellaw06.HeadRight", spec := "headRight", unfollowed := true, recurses := true, named := ["spandrel/term.kinds"], loops := true, apart := false, laid := [("spandrel/term.kinds", laid_spandrel_term_kinds)], narrowed := true }
def HeadRightUptoSaid : Prop := headRightUptoRow.holds Tryz.pinned (OpenSpec.upto headRightSpec)

/-- 'spandrellaw08.ConvMost', WHERE WHAT IT READS IS OF BULK AT MOST 1048576: true; the input reads as it did. -/
def convMostUptoRow : OpenClaim := { program := "ytebmlojhdnldgaagreatdoor", sum := "2928f32472053666ecfca2bd8615dabfac7de07be09217106d2a935336bdc8ce", func := "spandrel/spandrellaw08.ConvMost", spec := "convMost", unfollowed := true, recurses := true, named := ["spandrel/term.kinds"], loops := true, apart := false, laid := [("spandrel/term.kinds", laid_spandrel_term_kinds)], narrowed := true }
def ConvMostUptoSaid : Prop := convMostUptoRow.holds Tryz.pinned (OpenSpec.upto convMostSpec)

/-- 'spandrellaw08.ConvMeets', WHERE WHAT IT READS IS OF BULK AT MOST 1048576: true; the input reads as it did. -/
def convMeetsUptoRow : OpenClaim := { program := "ytebmlojhdnldgaagreatdoor", sum := "2928f32472053666ecfca2bd8615dabfac7de07be09217106d2a935336bdc8ce", func := "spandrel/spandrellaw08.ConvMeets", spec := "convMeets", unfollowed := true, recurses := true, named := ["spandrel/term.kinds"], loops := true, apart := false, laid := [("spandrel/term.kinds", laid_spandrel_term_kinds)], narrowed := true }
def ConvMeetsUptoSaid : Prop := convMeetsUptoRow.holds Tryz.pinned (OpenSpec.upto convMeetsSpec)

end Rows
end Go.Proofs.YtebmlojhdnldgaaGreatDoor
