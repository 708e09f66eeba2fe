/-
  NARROWER THAN 'FOR EVERY INPUT', by the rows' own cells (each row's printed sentence says how): BoundsObliges: loops, laid · ConstraintFlats: loops, laid · ConstraintParts: loops, laid · ConstraintJoins: loops, laid · ConstraintFills: loops, laid.
  DERIVED. THE GIVEN ROWS OF THIS SEAT. 5 by the template 'for every input the law returns true; each argument reads behind the call as it read before'; 0 by the template 'total and deterministic' (their statements: YthikbenglkfioaaDoorTotals.lean).
  GIVEN WITH THE SEED: the statements are not yours to turn. If you find one false, say at which input.
  Laid BY PROGRAM, IN A SANDBOX (cutbox-rows.mjs): the forced cells as the released guide's own fill.sh prints them over the translation b337f03939757737… (all of the seat's roots in one cut). By AI agents, Wed Nov 11 2026. No macro, syntax, notation, axiom, sorry.
-/
import Derived.Test.YthikbenglkfioaaDoorChecked
import GoSem.Claim
import GoSem.ClaimJoined
import GoSem.ClaimMapViews
import Derived.JoinedTies
import Derived.KernelRfl
namespace Go.Proofs.YthikbenglkfioaaDoor
/- THE CELL 'sum', in the pinned program and in every row, IS THE sha256 OF THE DUMP (.gsa) THAT YthikbenglkfioaaDoorProg.lean LOADS. Nothing in Lean hashes anything: it is a label: what it is worth is what the hold of that sum in a sandbox is worth. -/
noncomputable def Tryd.pinned : Pinned := { name := "ythikbenglkfioaadoor", sum := "b337f03939757737456f1ab05cb7ea90ca4ba9b6ab9c1ff4a111b774c9a2bec8", checked := Tryd.checked }
namespace Rows
def none {H : Type} : Left H := { results := [], args := [] }

/- WHAT THE LISTED PACKAGE-LEVEL VARIABLES READ AS WHEN THE CALL BEGINS. Each datum BY PROGRAM (the guide's laid-datum.mjs) off the statement by which the dump's own 'gosem.cut.vars' lays the variable. In a bare row this is a premise. The card (YthikbenglkfioaaDoorCards.lean) ties it to the program's text. -/
def laid_liquidcheck_names_keywords {H : Type} : DataW H := .agg [.lit (.string [97, 110, 100]), .lit (.string [97, 115, 115, 117, 109, 101]), .lit (.string [98, 111, 111, 108]), .lit (.string [98, 111, 117, 110, 100]), .lit (.string [99, 97, 115, 101]), .lit (.string [99, 101, 108, 108]), .lit (.string [99, 108, 97, 115, 115]), .lit (.string [100, 97, 116, 97]), .lit (.string [100, 101, 102]), .lit (.string [100, 105, 118]), .lit (.string [101, 108, 115, 101]), .lit (.string [101, 110, 100]), .lit (.string [102, 97, 108, 115, 101]), .lit (.string [102, 111, 114, 97, 108, 108]), .lit (.string [102, 117, 110]), .lit (.string [103, 101, 116]), .lit (.string [105, 102]), .lit (.string [105, 110]), .lit (.string [105, 110, 115, 116]), .lit (.string [105, 110, 116]), .lit (.string [105, 110, 118, 97, 114, 105, 97, 110, 116]), .lit (.string [108, 101, 116]), .lit (.string [109, 97, 116, 99, 104]), .lit (.string [109, 101, 97, 115, 117, 114, 101]), .lit (.string [109, 101, 116, 114, 105, 99]), .lit (.string [109, 111, 100]), .lit (.string [109, 117]), .lit (.string [110, 101, 119]), .lit (.string [110, 111, 116]), .lit (.string [111, 102]), .lit (.string [111, 114]), .lit (.string [113, 117, 97, 108]), .lit (.string [114, 101, 102, 108, 101, 99, 116]), .lit (.string [115, 101, 116]), .lit (.string [116, 104, 101, 110]), .lit (.string [116, 114, 117, 101]), .lit (.string [117, 115, 101]), .lit (.string [118]), .lit (.string [118, 97, 108]), .lit (.string [116, 97, 103]), .lit (.string [119, 104, 101, 114, 101]), .lit (.string [119, 105, 116, 104])]

/-- 'liquidchecklaw36.BoundsObliges': WHATEVER THE INPUT: true; the input reads as it did. -/
def boundsObligesSpec : ChangeSpec := { name := "boundsObliges", fn := fun _ => fun
  | [d1, d2, d3] => { results := [.lit (.bool true)], args := [d1, d2, d3] }
  | _ => none }
def boundsObligesRow : OpenClaim := { program := "ythikbenglkfioaadoor", sum := "b337f03939757737456f1ab05cb7ea90ca4ba9b6ab9c1ff4a111b774c9a2bec8", func := "liquidcheck/liquidchecklaw36.BoundsObliges", spec := "boundsObliges", unfollowed := true, recurses := true, named := ["liquidcheck/names.keywords"], loops := true, apart := false, laid := [("liquidcheck/names.keywords", laid_liquidcheck_names_keywords)] }
def BoundsObligesSaid : Prop := boundsObligesRow.holds Tryd.pinned (OpenSpec.ofChange boundsObligesSpec)

/-- ITS FALSE NEIGHBOUR: 'it returns false'. Refute it at one input. -/
def boundsObligesWrong : ChangeSpec := { name := "boundsObliges", fn := fun _ => fun
  | [d1, d2, d3] => { results := [.lit (.bool false)], args := [d1, d2, d3] }
  | _ => none }
def BoundsObligesWrongFalsely : Prop := boundsObligesRow.holds Tryd.pinned (OpenSpec.ofChange boundsObligesWrong)

/-- 'liquidchecklaw38.ConstraintFlats': WHATEVER THE INPUT: true; the input reads as it did. -/
def constraintFlatsSpec : ChangeSpec := { name := "constraintFlats", fn := fun _ => fun
  | [d] => { results := [.lit (.bool true)], args := [d] }
  | _ => none }
def constraintFlatsRow : OpenClaim := { program := "ythikbenglkfioaadoor", sum := "b337f03939757737456f1ab05cb7ea90ca4ba9b6ab9c1ff4a111b774c9a2bec8", func := "liquidcheck/liquidchecklaw38.ConstraintFlats", spec := "constraintFlats", unfollowed := true, recurses := true, named := ["liquidcheck/names.keywords"], loops := true, apart := false, laid := [("liquidcheck/names.keywords", laid_liquidcheck_names_keywords)] }
def ConstraintFlatsSaid : Prop := constraintFlatsRow.holds Tryd.pinned (OpenSpec.ofChange constraintFlatsSpec)

/-- ITS FALSE NEIGHBOUR: 'it returns false'. Refute it at one input. -/
def constraintFlatsWrong : ChangeSpec := { name := "constraintFlats", fn := fun _ => fun
  | [d] => { results := [.lit (.bool false)], args := [d] }
  | _ => none }
def ConstraintFlatsWrongFalsely : Prop := constraintFlatsRow.holds Tryd.pinned (OpenSpec.ofChange constraintFlatsWrong)

/-- 'liquidchecklaw38.ConstraintParts': WHATEVER THE INPUT: true; the input reads as it did. -/
def constraintPartsSpec : ChangeSpec := { name := "constraintParts", fn := fun _ => fun
  | [d] => { results := [.lit (.bool true)], args := [d] }
  | _ => none }
def constraintPartsRow : OpenClaim := { program := "ythikbenglkfioaadoor", sum := "b337f03939757737456f1ab05cb7ea90ca4ba9b6ab9c1ff4a111b774c9a2bec8", func := "liquidcheck/liquidchecklaw38.ConstraintParts", spec := "constraintParts", unfollowed := true, recurses := true, named := ["liquidcheck/names.keywords"], loops := true, apart := false, laid := [("liquidcheck/names.keywords", laid_liquidcheck_names_keywords)] }
def ConstraintPartsSaid : Prop := constraintPartsRow.holds Tryd.pinned (OpenSpec.ofChange constraintPartsSpec)

/-- ITS FALSE NEIGHBOUR: 'it returns false'. Refute it at one input. -/
def constraintPartsWrong : ChangeSpec := { name := "constraintParts", fn := fun _ => fun
  | [d] => { results := [.lit (.bool false)], args := [d] }
  | _ => none }
def ConstraintPartsWrongFalsely : Prop := constraintPartsRow.holds Tryd.pinned (OpenSpec.ofChange constraintPartsWrong)

/-- 'liquidchecklaw38.ConstraintJoins': WHATEVER THE INPUT: true; the input reads as it did. -/
def constraintJoinsSpec : ChangeSpec := { name := "constraintJoins", fn := fun _ => fun
  | [d1, d2, d3] => { results := [.lit (.bool true)], args := [d1, d2, d3] }
  | _ => none }
def constraintJoinsRow : OpenClaim := { program := "ythikbenglkfioaadoor", sum := "b337f03939757737456f1ab05cb7ea90ca4ba9b6ab9c1ff4a111b774c9a2bec8", func := "liquidcheck/liquidchecklaw38.ConstraintJoins", spec := "constraintJoins", unfollowed := true, recurses := true, named := ["liquidcheck/names.keywords"], loops := true, apart := false, laid := [("liquidcheck/names.keywords", laid_liquidcheck_names_keywords)] }
def ConstraintJoinsSaid : Prop := constraintJoinsRow.holds Tryd.pinned (OpenSpec.ofChange constraintJoinsSpec)

/-- ITS FALSE NEIGHBOUR: 'it returns false'. Refute it at one input. -/
def constraintJoinsWrong : ChangeSpec := { name := "constraintJoins", fn := fun _ => fun
  | [d1, d2, d3] => { results := [.lit (.bool false)], args := [d1, d2, d3] }
  | _ => none }
def ConstraintJoinsWrongFalsely : Prop := constraintJoinsRow.holds Tryd.pinned (OpenSpec.ofChange constraintJoinsWrong)

/-- 'liquidchecklaw38.ConstraintFills': WHATEVER THE INPUT: true; the input reads as it did. -/
def constraintFillsSpec : ChangeSpec := { name := "constraintFills", fn := fun _ => fun
  | [d1, d2, d3] => { results := [.lit (.bool true)], args := [d1, d2, d3] }
  | _ => none }
def constraintFillsRow : OpenClaim := { program := "ythikbenglkfioaadoor", sum := "b337f03939757737456f1ab05cb7ea90ca4ba9b6ab9c1ff4a111b774c9a2bec8", func := "liquidcheck/liquidchecklaw38.ConstraintFills", spec := "constraintFills", unfollowed := true, recurses := true, named := ["liquidcheck/names.keywords"], loops := true, apart := false, laid := [("liquidcheck/names.keywords", laid_liquidcheck_names_keywords)] }
def ConstraintFillsSaid : Prop := constraintFillsRow.holds Tryd.pinned (OpenSpec.ofChange constraintFillsSpec)

/-- ITS FALSE NEIGHBOUR: 'it returns false'. Refute it at one input. -/
def constraintFillsWrong : ChangeSpec := { name := "constraintFills", fn := fun _ => fun
  | [d1, d2, d3] => { results := [.lit (.bool false)], args := [d1, d2, d3] }
  | _ => none }
def ConstraintFillsWrongFalsely : Prop := constraintFillsRow.holds Tryd.pinned (OpenSpec.ofChange constraintFillsWrong)

/- THE SECOND FORM. 'bulk': how many values and letters a reading holds, each counted each time it is reached (what is shared counts as often as it is met; a slice's spare places count too). A statement '..UptoSaid' is the law's where the arguments, and the package variables that the reading takes, are together of bulk at most 1048576: NARROWER than '..Said'. Prove '..Said' where nothing that the law and all that it calls make is longer than what came in: it says more and counts as full. Else prove '..UptoSaid'. A law counts once. -/
mutual
def uptoBulk {H : Type} : DataW H → Nat
  | .lit (.string bytes) => bytes.length + 1
  | .lit _ => 1
  | .nil => 1
  | .ptr d => uptoBulk d + 1
  | .slice elems spare => uptoBulkAll elems + uptoBulkAll spare + 1
  | .agg parts => uptoBulkAll parts + 1
  | .iface _ d => uptoBulk d + 1
  | .map entries => uptoBulkEntries entries + 1
  | .held _ => 1
def uptoBulkAll {H : Type} : List (DataW H) → Nat
  | [] => 0
  | d :: r => uptoBulk d + uptoBulkAll r
def uptoBulkEntries {H : Type} : List (Lit × DataW H) → Nat
  | [] => 0
  | x :: r => uptoBulkEntry x + uptoBulkEntries r
def uptoBulkEntry {H : Type} : Lit × DataW H → Nat
  | (.string bytes, d) => bytes.length + uptoBulk d + 1
  | (_, d) => uptoBulk d + 1
 end
def uptoSmall : (H : Type) → List (DataW H) → Bool := fun _ ds => decide (uptoBulkAll ds ≤ 1048576)
def OpenSpec.upto (s : _root_.Go.ChangeSpec) : _root_.Go.OpenSpec := { _root_.Go.OpenSpec.ofChange s with cond := some uptoSmall }

/-- 'liquidchecklaw36.BoundsObliges', WHERE WHAT IT READS IS OF BULK AT MOST 1048576: true; the input reads as it did. -/
def boundsObligesUptoRow : OpenClaim := { program := "ythikbenglkfioaadoor", sum := "b337f03939757737456f1ab05cb7ea90ca4ba9b6ab9c1ff4a111b774c9a2bec8", func := "liquidcheck/liquidchecklaw36.BoundsObliges", spec := "boundsObliges", unfollowed := true, recurses := true, named := ["liquidcheck/names.keywords"], loops := true, apart := false, laid := [("liquidcheck/names.keywords", laid_liquidcheck_names_keywords)], narrowed := true }
def BoundsObligesUptoSaid : Prop := boundsObligesUptoRow.holds Tryd.pinned (OpenSpec.upto boundsObligesSpec)

/-- 'liquidchecklaw38.ConstraintFlats', WHERE WHAT IT READS IS OF BULK AT MOST 1048576: true; the input reads as it did. -/
def constraintFlatsUptoRow : OpenClaim := { program := "ythikbenglkfioaadoor", sum := "b337f03939757737456f1ab05cb7ea90ca4ba9b6ab9c1ff4a111b774c9a2bec8", func := "liquidcheck/liquidchecklaw38.ConstraintFlats", spec := "constraintFlats", unfollowed := true, recurses := true, named := ["liquidcheck/names.keywords"], loops := true, apart := false, laid := [("liquidcheck/names.keywords", laid_liquidcheck_names_keywords)], narrowed := true }
def ConstraintFlatsUptoSaid : Prop := constraintFlatsUptoRow.holds Tryd.pinned (OpenSpec.upto constraintFlatsSpec)

/-- 'liquidchecklaw38.ConstraintParts', WHERE WHAT IT READS IS OF BULK AT MOST 1048576: true; the input reads as it did. -/
def constraintPartsUptoRow : OpenClaim := { program := "ythikbenglkfioaadoor", sum := "b337f03939757737456f1ab05cb7ea90ca4ba9b6ab9c1ff4a111b774c9a2bec8", func := "liquidcheck/liquidchecklaw38.ConstraintParts", spec := "constraintParts", unfollowed := true, recurses := true, named := ["liquidcheck/names.keywords"], loops := true, apart := false, laid := [("liquidcheck/names.keywords", laid_liquidcheck_names_keywords)], narrowed := true }
def ConstraintPartsUptoSaid : Prop := constraintPartsUptoRow.holds Tryd.pinned (OpenSpec.upto constraintPartsSpec)

/-- 'liquidchecklaw38.ConstraintJoins', WHERE WHAT IT READS IS OF BULK AT MOST 1048576: true; the input reads as it did. -/
def constraintJoinsUptoRow : OpenClaim := { program := "ythikbenglkfioaadoor", sum := "b337f03939757737456f1ab05cb7ea90ca4ba9b6ab9c1ff4a111b774c9a2bec8", func := "liquidcheck/liquidchecklaw38.ConstraintJoins", spec := "constraintJoins", unfollowed := true, recurses := true, named := ["liquidcheck/names.keywords"], loops := true, apart := false, laid := [("liquidcheck/names.keywords", laid_liquidcheck_names_keywords)], narrowed := true }
def ConstraintJoinsUptoSaid : Prop := constraintJoinsUptoRow.holds Tryd.pinned (OpenSpec.upto constraintJoinsSpec)

/-- 'liquidchecklaw38.ConstraintFills', WHERE WHAT IT READS IS OF BULK AT MOST 1048576: true; the input reads as it did. -/
def constraintFillsUptoRow : OpenClaim := { program := "ythikbenglkfioaadoor", sum := "b337f03939757737456f1ab05cb7ea90ca4ba9b6ab9c1ff4a111b774c9a2bec8", func := "liquidcheck/liquidchecklaw38.ConstraintFills", spec := "constraintFills", unfollowed := true, recurses := true, named := ["liquidcheck/names.keywords"], loops := true, apart := false, laid := [("liquidcheck/names.keywords", laid_liquidcheck_names_keywords)], narrowed := true }
def ConstraintFillsUptoSaid : Prop := constraintFillsUptoRow.holds Tryd.pinned (OpenSpec.upto constraintFillsSpec)

end Rows
end Go.Proofs.YthikbenglkfioaaDoor
