/-
  NARROWER THAN 'FOR EVERY INPUT', by the rows' own cells (each row's printed sentence says how): NormKids: loops, laid · NormOne: loops, laid · CenvAll: loops, laid · CenvMore: loops, laid · InferChecks: loops, laid · InferSorts: loops, laid.
  DERIVED. THE GIVEN ROWS OF THIS SEAT. 6 by the template 'for every input the law returns true; each argument reads behind the call as it read before'; 0 by the template 'total and deterministic' (their statements: YtgloldepdhgfaaaGreatDoorTotals.lean).
  GIVEN WITH THE SEED: the statements are not yours to turn. If you find one false, say at which input.
  Laid BY PROGRAM, IN A SANDBOX (cutbox-rows.mjs): the forced cells as the released guide's own fill.sh prints them over the translation 67ce5a0106fdd75b… (all of the seat's roots in one cut). By AI agents, Wed Nov 11 2026. No macro, syntax, notation, axiom, sorry.
-/
import Derived.Test.YtgloldepdhgfaaaGreatDoorChecked
import GoSem.Claim
import GoSem.ClaimJoined
import GoSem.ClaimMapViews
import Derived.JoinedTies
import Derived.KernelRfl
namespace Go.Proofs.YtgloldepdhgfaaaGreatDoor
/- THE CELL 'sum', in the pinned program and in every row, IS THE sha256 OF THE DUMP (.gsa) THAT YtgloldepdhgfaaaGreatDoorProg.lean LOADS. Nothing in Lean hashes anything: it is a label: what it is worth is what the hold of that sum in a sandbox is worth. -/
noncomputable def Tryz.pinned : Pinned := { name := "ytgloldepdhgfaaagreatdoor", sum := "67ce5a0106fdd75b7dbf94d65d1c9bbfda4db2a4e921e8c3709a772066c11e5f", checked := Tryz.checked }
namespace Rows
def none {H : Type} : Left H := { results := [], args := [] }

/- WHAT THE LISTED PACKAGE-LEVEL VARIABLES READ AS WHEN THE CALL BEGINS. Each datum BY PROGRAM (the guide's laid-datum.mjs) off the statement by which the dump's own 'gosem.cut.vars' lays the variable. In a bare row this is a premise. The card (YtgloldepdhgfaaaGreatDoorCards.lean) ties it to the program's text. -/
def laid_spandrel_term_kinds {H : Type} : DataW H := .agg [.agg [.lit (.bool false), .lit (.bool false), .lit (.int .i64 0), .lit (.int .i64 0), .lit (.int .i64 0)], .agg [.lit (.bool true), .lit (.bool false), .lit (.int .i64 0), .lit (.int .i64 0), .lit (.int .i64 (-1))], .agg [.lit (.bool false), .lit (.bool false), .lit (.int .i64 1), .lit (.int .i64 0), .lit (.int .i64 (-1))], .agg [.lit (.bool true), .lit (.bool false), .lit (.int .i64 (-1)), .lit (.int .i64 0), .lit (.int .i64 (-1))], .agg [.lit (.bool false), .lit (.bool false), .lit (.int .i64 0), .lit (.int .i64 2), .lit (.int .i64 1)], .agg [.lit (.bool false), .lit (.bool false), .lit (.int .i64 0), .lit (.int .i64 2), .lit (.int .i64 1)], .agg [.lit (.bool false), .lit (.bool false), .lit (.int .i64 0), .lit (.int .i64 2), .lit (.int .i64 (-1))], .agg [.lit (.bool false), .lit (.bool false), .lit (.int .i64 0), .lit (.int .i64 3), .lit (.int .i64 2)], .agg [.lit (.bool true), .lit (.bool true), .lit (.int .i64 (-1)), .lit (.int .i64 0), .lit (.int .i64 (-1))], .agg [.lit (.bool true), .lit (.bool true), .lit (.int .i64 (-1)), .lit (.int .i64 0), .lit (.int .i64 (-1))], .agg [.lit (.bool true), .lit (.bool true), .lit (.int .i64 (-1)), .lit (.int .i64 0), .lit (.int .i64 (-1))], .agg [.lit (.bool false), .lit (.bool true), .lit (.int .i64 0), .lit (.int .i64 0), .lit (.int .i64 (-1))], .agg [.lit (.bool false), .lit (.bool false), .lit (.int .i64 0), .lit (.int .i64 2), .lit (.int .i64 1)], .agg [.lit (.bool false), .lit (.bool false), .lit (.int .i64 0), .lit (.int .i64 2), .lit (.int .i64 (-1))], .agg [.lit (.bool false), .lit (.bool false), .lit (.int .i64 0), .lit (.int .i64 1), .lit (.int .i64 (-1))], .agg [.lit (.bool false), .lit (.bool false), .lit (.int .i64 0), .lit (.int .i64 1), .lit (.int .i64 (-1))], .agg [.lit (.bool false), .lit (.bool false), .lit (.int .i64 0), .lit (.int .i64 2), .lit (.int .i64 1)], .agg [.lit (.bool false), .lit (.bool false), .lit (.int .i64 0), .lit (.int .i64 2), .lit (.int .i64 (-1))], .agg [.lit (.bool false), .lit (.bool false), .lit (.int .i64 0), .lit (.int .i64 5), .lit (.int .i64 1)], .agg [.lit (.bool false), .lit (.bool false), .lit (.int .i64 0), .lit (.int .i64 3), .lit (.int .i64 (-1))], .agg [.lit (.bool false), .lit (.bool false), .lit (.int .i64 0), .lit (.int .i64 0), .lit (.int .i64 (-1))], .agg [.lit (.bool false), .lit (.bool false), .lit (.int .i64 0), .lit (.int .i64 6), .lit (.int .i64 (-1))], .agg [.lit (.bool true), .lit (.bool false), .lit (.int .i64 0), .lit (.int .i64 0), .lit (.int .i64 (-1))], .agg [.lit (.bool true), .lit (.bool true), .lit (.int .i64 0), .lit (.int .i64 0), .lit (.int .i64 (-1))], .agg [.lit (.bool false), .lit (.bool true), .lit (.int .i64 0), .lit (.int .i64 2), .lit (.int .i64 (-1))]]

/-- 'spandrellaw07.NormKids': WHATEVER THE INPUT: true; the input reads as it did. -/
def normKidsSpec : ChangeSpec := { name := "normKids", fn := fun _ => fun
  | [d1, d2, d3, d4, d5] => { results := [.lit (.bool true)], args := [d1, d2, d3, d4, d5] }
  | _ => none }
def normKidsRow : OpenClaim := { program := "ytgloldepdhgfaaagreatdoor", sum := "67ce5a0106fdd75b7dbf94d65d1c9bbfda4db2a4e921e8c3709a772066c11e5f", func := "spandrel/spandrellaw07.NormKids", spec := "normKids", unfollowed := true, recurses := true, named := ["spandrel/term.kinds"], loops := true, apart := false, laid := [("spandrel/term.kinds", laid_spandrel_term_kinds)] }
def NormKidsSaid : Prop := normKidsRow.holds Tryz.pinned (OpenSpec.ofChange normKidsSpec)

/-- ITS FALSE NEIGHBOUR: 'it returns false'. Refute it at one input. -/
def normKidsWrong : ChangeSpec := { name := "normKids", fn := fun _ => fun
  | [d1, d2, d3, d4, d5] => { results := [.lit (.bool false)], args := [d1, d2, d3, d4, d5] }
  | _ => none }
def NormKidsWrongFalsely : Prop := normKidsRow.holds Tryz.pinned (OpenSpec.ofChange normKidsWrong)

/-- 'spandrellaw07.NormOne': WHATEVER THE INPUT: true; the input reads as it did. -/
def normOneSpec : ChangeSpec := { name := "normOne", fn := fun _ => fun
  | [d1, d2, d3, d4, d5, d6] => { results := [.lit (.bool true)], args := [d1, d2, d3, d4, d5, d6] }
  | _ => none }
def normOneRow : OpenClaim := { program := "ytgloldepdhgfaaagreatdoor", sum := "67ce5a0106fdd75b7dbf94d65d1c9bbfda4db2a4e921e8c3709a772066c11e5f", func := "spandrel/spandrellaw07.NormOne", spec := "normOne", unfollowed := true, recurses := true, named := ["spandrel/term.kinds"], loops := true, apart := false, laid := [("spandrel/term.kinds", laid_spandrel_term_kinds)] }
def NormOneSaid : Prop := normOneRow.holds Tryz.pinned (OpenSpec.ofChange normOneSpec)

/-- ITS FALSE NEIGHBOUR: 'it returns false'. Refute it at one input. -/
def normOneWrong : ChangeSpec := { name := "normOne", fn := fun _ => fun
  | [d1, d2, d3, d4, d5, d6] => { results := [.lit (.bool false)], args := [d1, d2, d3, d4, d5, d6] }
  | _ => none }
def NormOneWrongFalsely : Prop := normOneRow.holds Tryz.pinned (OpenSpec.ofChange normOneWrong)

/-- 'spandrellaw10.CenvAll': WHATEVER THE INPUT: true; the input reads as it did. -/
def cenvAllSpec : ChangeSpec := { name := "cenvAll", fn := fun _ => fun
  | [d1, d2] => { results := [.lit (.bool true)], args := [d1, d2] }
  | _ => none }
def cenvAllRow : OpenClaim := { program := "ytgloldepdhgfaaagreatdoor", sum := "67ce5a0106fdd75b7dbf94d65d1c9bbfda4db2a4e921e8c3709a772066c11e5f", func := "spandrel/spandrellaw10.CenvAll", spec := "cenvAll", unfollowed := true, recurses := true, named := ["spandrel/term.kinds"], loops := true, apart := false, laid := [("spandrel/term.kinds", laid_spandrel_term_kinds)] }
def CenvAllSaid : Prop := cenvAllRow.holds Tryz.pinned (OpenSpec.ofChange cenvAllSpec)

/-- ITS FALSE NEIGHBOUR: 'it returns false'. Refute it at one input. -/
def cenvAllWrong : ChangeSpec := { name := "cenvAll", fn := fun _ => fun
  | [d1, d2] => { results := [.lit (.bool false)], args := [d1, d2] }
  | _ => none }
def CenvAllWrongFalsely : Prop := cenvAllRow.holds Tryz.pinned (OpenSpec.ofChange cenvAllWrong)

/-- 'spandrellaw10.CenvMore': WHATEVER THE INPUT: true; the input reads as it did. -/
def cenvMoreSpec : ChangeSpec := { name := "cenvMore", fn := fun _ => fun
  | [d1, d2, d3, d4] => { results := [.lit (.bool true)], args := [d1, d2, d3, d4] }
  | _ => none }
def cenvMoreRow : OpenClaim := { program := "ytgloldepdhgfaaagreatdoor", sum := "67ce5a0106fdd75b7dbf94d65d1c9bbfda4db2a4e921e8c3709a772066c11e5f", func := "spandrel/spandrellaw10.CenvMore", spec := "cenvMore", unfollowed := true, recurses := true, named := ["spandrel/term.kinds"], loops := true, apart := false, laid := [("spandrel/term.kinds", laid_spandrel_term_kinds)] }
def CenvMoreSaid : Prop := cenvMoreRow.holds Tryz.pinned (OpenSpec.ofChange cenvMoreSpec)

/-- ITS FALSE NEIGHBOUR: 'it returns false'. Refute it at one input. -/
def cenvMoreWrong : ChangeSpec := { name := "cenvMore", fn := fun _ => fun
  | [d1, d2, d3, d4] => { results := [.lit (.bool false)], args := [d1, d2, d3, d4] }
  | _ => none }
def CenvMoreWrongFalsely : Prop := cenvMoreRow.holds Tryz.pinned (OpenSpec.ofChange cenvMoreWrong)

/-- 'spandrellaw09.InferChecks': WHATEVER THE INPUT: true; the input reads as it did. -/
def inferChecksSpec : ChangeSpec := { name := "inferChecks", fn := fun _ => fun
  | [d1, d2, d3, d4, d5] => { results := [.lit (.bool true)], args := [d1, d2, d3, d4, d5] }
  | _ => none }
def inferChecksRow : OpenClaim := { program := "ytgloldepdhgfaaagreatdoor", sum := "67ce5a0106fdd75b7dbf94d65d1c9bbfda4db2a4e921e8c3709a772066c11e5f", func := "spandrel/spandrellaw09.InferChecks", spec := "inferChecks", unfollowed := true, recurses := true, named := ["spandrel/term.kinds"], loops := true, apart := false, laid := [("spandrel/term.kinds", laid_spandrel_term_kinds)] }
def InferChecksSaid : Prop := inferChecksRow.holds Tryz.pinned (OpenSpec.ofChange inferChecksSpec)

/-- ITS FALSE NEIGHBOUR: 'it returns false'. Refute it at one input. -/
def inferChecksWrong : ChangeSpec := { name := "inferChecks", fn := fun _ => fun
  | [d1, d2, d3, d4, d5] => { results := [.lit (.bool false)], args := [d1, d2, d3, d4, d5] }
  | _ => none }
def InferChecksWrongFalsely : Prop := inferChecksRow.holds Tryz.pinned (OpenSpec.ofChange inferChecksWrong)

/-- 'spandrellaw09.InferSorts': WHATEVER THE INPUT: true; the input reads as it did. -/
def inferSortsSpec : ChangeSpec := { name := "inferSorts", fn := fun _ => fun
  | [d1, d2, d3, d4] => { results := [.lit (.bool true)], args := [d1, d2, d3, d4] }
  | _ => none }
def inferSortsRow : OpenClaim := { program := "ytgloldepdhgfaaagreatdoor", sum := "67ce5a0106fdd75b7dbf94d65d1c9bbfda4db2a4e921e8c3709a772066c11e5f", func := "spandrel/spandrellaw09.InferSorts", spec := "inferSorts", unfollowed := true, recurses := true, named := ["spandrel/term.kinds"], loops := true, apart := false, laid := [("spandrel/term.kinds", laid_spandrel_term_kinds)] }
def InferSortsSaid : Prop := inferSortsRow.holds Tryz.pinned (OpenSpec.ofChange inferSortsSpec)

/-- ITS FALSE NEIGHBOUR: 'it returns false'. Refute it at one input. -/
def inferSortsWrong : ChangeSpec := { name := "inferSorts", fn := fun _ => fun
  | [d1, d2, d3, d4] => { results := [.lit (.bool false)], args := [d1, d2, d3, d4] }
  | _ => none }
def InferSortsWrongFalsely : Prop := inferSortsRow.holds Tryz.pinned (OpenSpec.ofChange inferSortsWrong)

/- THE SECOND FORM. 'bulk': how many values and letters a reading holds, each counted each time it is reached (what is shared counts as often as it is met; a slice's spare places count too). A statement '..UptoSaid' is the law's where the arguments, and the package variables that the reading takes, are together of bulk at most 1048576: NARROWER than '..Said'. Prove '..Said' where nothing that the law and all that it calls make is longer than what came in: it says more and counts as full. Else prove '..UptoSaid'. A law counts once. -/
mutual
def uptoBulk {H : Type} : DataW H → Nat
  | .lit (.string bytes) => bytes.length + 1
  | .lit _ => 1
  | .nil => 1
  | .ptr d => uptoBulk d + 1
  | .slice elems spare => uptoBulkAll elems + uptoBulkAll spare + 1
  | .agg parts => uptoBulkAll parts + 1
  | .iface _ d => uptoBulk d + 1
  | .map entries => uptoBulkEntries entries + 1
  | .held _ => 1
def uptoBulkAll {H : Type} : List (DataW H) → Nat
  | [] => 0
  | d :: r => uptoBulk d + uptoBulkAll r
def uptoBulkEntries {H : Type} : List (Lit × DataW H) → Nat
  | [] => 0
  | x :: r => uptoBulkEntry x + uptoBulkEntries r
def uptoBulkEntry {H : Type} : Lit × DataW H → Nat
  | (.string bytes, d) => bytes.length + uptoBulk d + 1
  | (_, d) => uptoBulk d + 1
 end
def uptoSmall : (H : Type) → List (DataW H) → Bool := fun _ ds => decide (uptoBulkAll ds ≤ 1048576)
def OpenSpec.upto (s : _root_.Go.ChangeSpec) : _root_.Go.OpenSpec := { _root_.Go.OpenSpec.ofChange s with cond := some uptoSmall }

/-- 'spandrellaw07.NormKids', WHERE WHAT IT READS IS OF BULK AT MOST 1048576: true; the input reads as it did. -/
def normKidsUptoRow : OpenClaim := { program := "ytgloldepdhgfaaagreatdoor", sum := "67ce5a0106fdd75b7dbf94d65d1c9bbfda4db2a4e921e8c3709a772066c11e5f", func := "spandrel/spandrellaw07.NormKids", spec := "normKids", unfollowed := true, recurses := true, named := ["spandrel/term.kinds"], loops := true, apart := false, laid := [("spandrel/term.kinds", laid_spandrel_term_kinds)], narrowed := true }
def NormKidsUptoSaid : Prop := normKidsUptoRow.holds Tryz.pinned (OpenSpec.upto normKidsSpec)

/-- 'spandrellaw07.NormOne', WHERE WHAT IT READS IS OF BULK AT MOST 1048576: true; the input reads as it did. -/
def normOneUptoRow : OpenClaim := { program := "ytgloldepdhgfaaagreatdoor", sum := "67ce5a0106fdd75b7dbf94d65d1c9bbfda4db2a4e921e8c3709a772066c11e5f", func := "spandrel/spandrellaw07.NormOne", spec := "normOne", unfollowed := true, recurses := true, named := ["spandrel/term.kinds"], loops := true, apart := false, laid := [("spandrel/term.kinds", laid_spandrel_term_kinds)], narrowed := true }
def NormOneUptoSaid : Prop := normOneUptoRow.holds Tryz.pinned (OpenSpec.upto normOneSpec)

/-- 'spandrellaw10.CenvAll', WHERE WHAT IT READS IS OF BULK AT MOST 1048576: true; the input reads as it did. -/
def cenvAllUptoRow : OpenClaim := { program := "ytgloldepdhgfaaagreatdoor", sum := "67ce5a0106fdd75b7dbf94d65d1c9bbfda4db2a4e921e8c3709a772066c11e5f", func := "spandrel/spandrellaw10.CenvAll", spec := "cenvAll", unfollowed := true, recurses := true, named := ["spandrel/term.kinds"], loops := true, apart := false, laid := [("spandrel/term.kinds", laid_spandrel_term_kinds)], narrowed := true }
def CenvAllUptoSaid : Prop := cenvAllUptoRow.holds Tryz.pinned (OpenSpec.upto cenvAllSpec)

/-- 'spandrellaw10.CenvMore', WHERE WHAT IT READS IS OF BULK AT MOST 1048576: true; the input reads as it did. -/
def cenvMoreUptoRow : OpenClaim := { program := "ytgloldepdhgfaaagreatdoor", sum := "67ce5a0106fdd75b7dbf94d65d1c9bbfda4db2a4e921e8c3709a772066c11e5f", func := "spandrel/spandrellaw10.CenvMore", spec := "cenvMore", unfollowed := true, recurses := true, named := ["spandrel/term.kinds"], loops := true, apart := false, laid := [("spandrel/term.kinds", laid_spandrel_term_kinds)], narrowed := true }
def CenvMoreUptoSaid : Prop := cenvMoreUptoRow.holds Tryz.pinned (OpenSpec.upto cenvMoreSpec)

/-- 'spandrellaw09.InferChecks', WHERE WHAT IT READS IS OF BULK AT MOST 1048576: true; the input reads as it did. -/
def inferChecksUptoRow : OpenClaim := { program := "ytgloldepdhgfaaagreatdoor", sum := "67ce5a0106fdd75b7dbf94d65d1c9bbfda4db2a4e921e8c3709a772066c11e5f", func := "spandrel/spandrellaw09.InferChecks", spec := "inferChecks", unfollowed := true, recurses := true, named := ["spandrel/term.kinds"], loops := true, apart := false, laid := [("spandrel/term.kinds", laid_spandrel_term_kinds)], narrowed := true }
def InferChecksUptoSaid : Prop := inferChecksUptoRow.holds Tryz.pinned (OpenSpec.upto inferChecksSpec)

/-- 'spandrellaw09.InferSorts', WHERE WHAT IT READS IS OF BULK AT MOST 1048576: true; the input reads as it did. -/
def inferSortsUptoRow : OpenClaim := { program := "ytgloldepdhgfaaagreatdoor", sum := "67ce5a0106fdd75b7dbf94d65d1c9bbfda4db2a4e921e8c3709a772066c11e5f", func := "spandrel/spandrellaw09.InferSorts", spec := "inferSorts", unfollowed := true, recurses := true, named := ["spandrel/term.kinds"], loops := true, apart := false, laid := [("spandrel/term.kinds", laid_spandrel_term_kinds)], narrowed := true }
def InferSortsUptoSaid : Prop := inferSortsUptoRow.holds Tryz.pinned (OpenSpec.upto inferSortsSpec)

end Rows
end Go.Proofs.YtgloldepdhgfaaaGreatDoor
