/-
  NARROWER THAN 'FOR EVERY INPUT', by the rows' own cells (each row's printed sentence says how): BoundsChecks: loops, laid · BoundsFits: loops, laid · ConstraintChecks: loops, laid · ConstraintRight: loops, laid.
  DERIVED. THE GIVEN ROWS OF THIS SEAT. 4 by the template 'for every input the law returns true; each argument reads behind the call as it read before'; 0 by the template 'total and deterministic' (their statements: YthikbenglkfioaaGreatDoorTotals.lean).
  GIVEN WITH THE SEED: the statements are not yours to turn. If you find one false, say at which input.
  Laid BY PROGRAM, IN A SANDBOX (cutbox-rows.mjs): the forced cells as the released guide's own fill.sh prints them over the translation e655b12d3a0a1312… (all of the seat's roots in one cut). By AI agents, Wed Nov 11 2026. No macro, syntax, notation, axiom, sorry.
-/
import Derived.Test.YthikbenglkfioaaGreatDoorChecked
import GoSem.Claim
import GoSem.ClaimJoined
import GoSem.ClaimMapViews
import Derived.JoinedTies
import Derived.KernelRfl
namespace Go.Proofs.YthikbenglkfioaaGreatDoor
/- THE CELL 'sum', in the pinned program and in every row, IS THE sha256 OF THE DUMP (.gsa) THAT YthikbenglkfioaaGreatDoorProg.lean LOADS. Nothing in Lean hashes anything: it is a label: what it is worth is what the hold of that sum in a sandbox is worth. -/
noncomputable def Tryz.pinned : Pinned := { name := "ythikbenglkfioaagreatdoor", sum := "e655b12d3a0a131294ebd517615bc523083dd915b38283e79a53f4553fb1709f", checked := Tryz.checked }
namespace Rows
def none {H : Type} : Left H := { results := [], args := [] }

/- WHAT THE LISTED PACKAGE-LEVEL VARIABLES READ AS WHEN THE CALL BEGINS. Each datum BY PROGRAM (the guide's laid-datum.mjs) off the statement by which the dump's own 'gosem.cut.vars' lays the variable. In a bare row this is a premise. The card (YthikbenglkfioaaGreatDoorCards.lean) ties it to the program's text. -/
def laid_liquidcheck_names_keywords {H : Type} : DataW H := .agg [.lit (.string [97, 110, 100]), .lit (.string [97, 115, 115, 117, 109, 101]), .lit (.string [98, 111, 111, 108]), .lit (.string [98, 111, 117, 110, 100]), .lit (.string [99, 97, 115, 101]), .lit (.string [99, 101, 108, 108]), .lit (.string [99, 108, 97, 115, 115]), .lit (.string [100, 97, 116, 97]), .lit (.string [100, 101, 102]), .lit (.string [100, 105, 118]), .lit (.string [101, 108, 115, 101]), .lit (.string [101, 110, 100]), .lit (.string [102, 97, 108, 115, 101]), .lit (.string [102, 111, 114, 97, 108, 108]), .lit (.string [102, 117, 110]), .lit (.string [103, 101, 116]), .lit (.string [105, 102]), .lit (.string [105, 110]), .lit (.string [105, 110, 115, 116]), .lit (.string [105, 110, 116]), .lit (.string [105, 110, 118, 97, 114, 105, 97, 110, 116]), .lit (.string [108, 101, 116]), .lit (.string [109, 97, 116, 99, 104]), .lit (.string [109, 101, 97, 115, 117, 114, 101]), .lit (.string [109, 101, 116, 114, 105, 99]), .lit (.string [109, 111, 100]), .lit (.string [109, 117]), .lit (.string [110, 101, 119]), .lit (.string [110, 111, 116]), .lit (.string [111, 102]), .lit (.string [111, 114]), .lit (.string [113, 117, 97, 108]), .lit (.string [114, 101, 102, 108, 101, 99, 116]), .lit (.string [115, 101, 116]), .lit (.string [116, 104, 101, 110]), .lit (.string [116, 114, 117, 101]), .lit (.string [117, 115, 101]), .lit (.string [118]), .lit (.string [118, 97, 108]), .lit (.string [116, 97, 103]), .lit (.string [119, 104, 101, 114, 101]), .lit (.string [119, 105, 116, 104])]

/-- 'liquidchecklaw36.BoundsChecks': WHATEVER THE INPUT: true; the input reads as it did. -/
def boundsChecksSpec : ChangeSpec := { name := "boundsChecks", fn := fun _ => fun
  | [d1, d2] => { results := [.lit (.bool true)], args := [d1, d2] }
  | _ => none }
def boundsChecksRow : OpenClaim := { program := "ythikbenglkfioaagreatdoor", sum := "e655b12d3a0a131294ebd517615bc523083dd915b38283e79a53f4553fb1709f", func := "liquidcheck/liquidchecklaw36.BoundsChecks", spec := "boundsChecks", unfollowed := true, recurses := true, named := ["liquidcheck/names.keywords"], loops := true, apart := false, laid := [("liquidcheck/names.keywords", laid_liquidcheck_names_keywords)] }
def BoundsChecksSaid : Prop := boundsChecksRow.holds Tryz.pinned (OpenSpec.ofChange boundsChecksSpec)

/-- ITS FALSE NEIGHBOUR: 'it returns false'. Refute it at one input. -/
def boundsChecksWrong : ChangeSpec := { name := "boundsChecks", fn := fun _ => fun
  | [d1, d2] => { results := [.lit (.bool false)], args := [d1, d2] }
  | _ => none }
def BoundsChecksWrongFalsely : Prop := boundsChecksRow.holds Tryz.pinned (OpenSpec.ofChange boundsChecksWrong)

/-- 'liquidchecklaw36.BoundsFits': WHATEVER THE INPUT: true; the input reads as it did. -/
def boundsFitsSpec : ChangeSpec := { name := "boundsFits", fn := fun _ => fun
  | [d1, d2, d3] => { results := [.lit (.bool true)], args := [d1, d2, d3] }
  | _ => none }
def boundsFitsRow : OpenClaim := { program := "ythikbenglkfioaagreatdoor", sum := "e655b12d3a0a131294ebd517615bc523083dd915b38283e79a53f4553fb1709f", func := "liquidcheck/liquidchecklaw36.BoundsFits", spec := "boundsFits", unfollowed := true, recurses := true, named := ["liquidcheck/names.keywords"], loops := true, apart := false, laid := [("liquidcheck/names.keywords", laid_liquidcheck_names_keywords)] }
def BoundsFitsSaid : Prop := boundsFitsRow.holds Tryz.pinned (OpenSpec.ofChange boundsFitsSpec)

/-- ITS FALSE NEIGHBOUR: 'it returns false'. Refute it at one input. -/
def boundsFitsWrong : ChangeSpec := { name := "boundsFits", fn := fun _ => fun
  | [d1, d2, d3] => { results := [.lit (.bool false)], args := [d1, d2, d3] }
  | _ => none }
def BoundsFitsWrongFalsely : Prop := boundsFitsRow.holds Tryz.pinned (OpenSpec.ofChange boundsFitsWrong)

/-- 'liquidchecklaw38.ConstraintChecks': WHATEVER THE INPUT: true; the input reads as it did. -/
def constraintChecksSpec : ChangeSpec := { name := "constraintChecks", fn := fun _ => fun
  | [d1, d2] => { results := [.lit (.bool true)], args := [d1, d2] }
  | _ => none }
def constraintChecksRow : OpenClaim := { program := "ythikbenglkfioaagreatdoor", sum := "e655b12d3a0a131294ebd517615bc523083dd915b38283e79a53f4553fb1709f", func := "liquidcheck/liquidchecklaw38.ConstraintChecks", spec := "constraintChecks", unfollowed := true, recurses := true, named := ["liquidcheck/names.keywords"], loops := true, apart := false, laid := [("liquidcheck/names.keywords", laid_liquidcheck_names_keywords)] }
def ConstraintChecksSaid : Prop := constraintChecksRow.holds Tryz.pinned (OpenSpec.ofChange constraintChecksSpec)

/-- ITS FALSE NEIGHBOUR: 'it returns false'. Refute it at one input. -/
def constraintChecksWrong : ChangeSpec := { name := "constraintChecks", fn := fun _ => fun
  | [d1, d2] => { results := [.lit (.bool false)], args := [d1, d2] }
  | _ => none }
def ConstraintChecksWrongFalsely : Prop := constraintChecksRow.holds Tryz.pinned (OpenSpec.ofChange constraintChecksWrong)

/-- 'liquidchecklaw38.ConstraintRight': WHATEVER THE INPUT: true; the input reads as it did. -/
def constraintRightSpec : ChangeSpec := { name := "constraintRight", fn := fun _ => fun
  | [d1, d2] => { results := [.lit (.bool true)], args := [d1, d2] }
  | _ => none }
def constraintRightRow : OpenClaim := { program := "ythikbenglkfioaagreatdoor", sum := "e655b12d3a0a131294ebd517615bc523083dd915b38283e79a53f4553fb1709f", func := "liquidcheck/liquidchecklaw38.ConstraintRight", spec := "constraintRight", unfollowed := true, recurses := true, named := ["liquidcheck/names.keywords"], loops := true, apart := false, laid := [("liquidcheck/names.keywords", laid_liquidcheck_names_keywords)] }
def ConstraintRightSaid : Prop := constraintRightRow.holds Tryz.pinned (OpenSpec.ofChange constraintRightSpec)

/-- ITS FALSE NEIGHBOUR: 'it returns false'. Refute it at one input. -/
def constraintRightWrong : ChangeSpec := { name := "constraintRight", fn := fun _ => fun
  | [d1, d2] => { results := [.lit (.bool false)], args := [d1, d2] }
  | _ => none }
def ConstraintRightWrongFalsely : Prop := constraintRightRow.holds Tryz.pinned (OpenSpec.ofChange constraintRightWrong)

/- THE SECOND FORM. 'bulk': how many values and letters a reading holds, each counted each time it is reached (what is shared counts as often as it is met; a slice's spare places count too). A statement '..UptoSaid' is the law's where the arguments, and the package variables that the reading takes, are together of bulk at most 1048576: NARROWER than '..Said'. Prove '..Said' where nothing that the law and all that it calls make is longer than what came in: it says more and counts as full. Else prove '..UptoSaid'. A law counts once. -/
mutual
def uptoBulk {H : Type} : DataW H → Nat
  | .lit (.string bytes) => bytes.length + 1
  | .lit _ => 1
  | .nil => 1
  | .ptr d => uptoBulk d + 1
  | .slice elems spare => uptoBulkAll elems + uptoBulkAll spare + 1
  | .agg parts => uptoBulkAll parts + 1
  | .iface _ d => uptoBulk d + 1
  | .map entries => uptoBulkEntries entries + 1
  | .held _ => 1
def uptoBulkAll {H : Type} : List (DataW H) → Nat
  | [] => 0
  | d :: r => uptoBulk d + uptoBulkAll r
def uptoBulkEntries {H : Type} : List (Lit × DataW H) → Nat
  | [] => 0
  | x :: r => uptoBulkEntry x + uptoBulkEntries r
def uptoBulkEntry {H : Type} : Lit × DataW H → Nat
  | (.string bytes, d) => bytes.length + uptoBulk d + 1
  | (_, d) => uptoBulk d + 1
 end
def uptoSmall : (H : Type) → List (DataW H) → Bool := fun _ ds => decide (uptoBulkAll ds ≤ 1048576)
def OpenSpec.upto (s : _root_.Go.ChangeSpec) : _root_.Go.OpenSpec := { _root_.Go.OpenSpec.ofChange s with cond := some uptoSmall }

/-- 'liquidchecklaw36.BoundsChecks', WHERE WHAT IT READS IS OF BULK AT MOST 1048576: true; the input reads as it did. -/
def boundsChecksUptoRow : OpenClaim := { program := "ythikbenglkfioaagreatdoor", sum := "e655b12d3a0a131294ebd517615bc523083dd915b38283e79a53f4553fb1709f", func := "liquidcheck/liquidchecklaw36.BoundsChecks", spec := "boundsChecks", unfollowed := true, recurses := true, named := ["liquidcheck/names.keywords"], loops := true, apart := false, laid := [("liquidcheck/names.keywords", laid_liquidcheck_names_keywords)], narrowed := true }
def BoundsChecksUptoSaid : Prop := boundsChecksUptoRow.holds Tryz.pinned (OpenSpec.upto boundsChecksSpec)

/-- 'liquidchecklaw36.BoundsFits', WHERE WHAT IT READS IS OF BULK AT MOST 1048576: true; the input reads as it did. -/
def boundsFitsUptoRow : OpenClaim := { program := "ythikbenglkfioaagreatdoor", sum := "e655b12d3a0a131294ebd517615bc523083dd915b38283e79a53f4553fb1709f", func := "liquidcheck/liquidchecklaw36.BoundsFits", spec := "boundsFits", unfollowed := true, recurses := true, named := ["liquidcheck/names.keywords"], loops := true, apart := false, laid := [("liquidcheck/names.keywords", laid_liquidcheck_names_keywords)], narrowed := true }
def BoundsFitsUptoSaid : Prop := boundsFitsUptoRow.holds Tryz.pinned (OpenSpec.upto boundsFitsSpec)

/-- 'liquidchecklaw38.ConstraintChecks', WHERE WHAT IT READS IS OF BULK AT MOST 1048576: true; the input reads as it did. -/
def constraintChecksUptoRow : OpenClaim := { program := "ythikbenglkfioaagreatdoor", sum := "e655b12d3a0a131294ebd517615bc523083dd915b38283e79a53f4553fb1709f", func := "liquidcheck/liquidchecklaw38.ConstraintChecks", spec := "constraintChecks", unfollowed := true, recurses := true, named := ["liquidcheck/names.keywords"], loops := true, apart := false, laid := [("liquidcheck/names.keywords", laid_liquidcheck_names_keywords)], narrowed := true }
def ConstraintChecksUptoSaid : Prop := constraintChecksUptoRow.holds Tryz.pinned (OpenSpec.upto constraintChecksSpec)

/-- 'liquidchecklaw38.ConstraintRight', WHERE WHAT IT READS IS OF BULK AT MOST 1048576: true; the input reads as it did. -/
def constraintRightUptoRow : OpenClaim := { program := "ythikbenglkfioaagreatdoor", sum := "e655b12d3a0a131294ebd517615bc523083dd915b38283e79a53f4553fb1709f", func := "liquidcheck/liquidchecklaw38.ConstraintRight", spec := "constraintRight", unfollowed := true, recurses := true, named := ["liquidcheck/names.keywords"], loops := true, apart := false, laid := [("liquidcheck/names.keywords", laid_liquidcheck_names_keywords)], narrowed := true }
def ConstraintRightUptoSaid : Prop := constraintRightUptoRow.holds Tryz.pinned (OpenSpec.upto constraintRightSpec)

end Rows
end Go.Proofs.YthikbenglkfioaaGreatDoor
