/-
  NARROWER THAN 'FOR EVERY INPUT', by the rows' own cells (each row's printed sentence says how): SortChecks: laid · SortEnvs: laid · SortFinds: laid · SortTypes: loops, laid · SortWith: laid · SortLooks: laid · SortGrows: laid.
  DERIVED. THE GIVEN ROWS OF THIS SEAT. 7 by the template 'for every input the law returns true; each argument reads behind the call as it read before'; 0 by the template 'total and deterministic' (their statements: YthhfdlhbhfkbdaaDoorTotals.lean).
  GIVEN WITH THE SEED: the statements are not yours to turn. If you find one false, say at which input.
  Laid BY PROGRAM, IN A SANDBOX (cutbox-rows.mjs): the forced cells as the released guide's own fill.sh prints them over the translation f5525f404816aed7… (all of the seat's roots in one cut). By AI agents, Wed Nov 11 2026. No macro, syntax, notation, axiom, sorry.
-/
import Derived.Test.YthhfdlhbhfkbdaaDoorChecked
import GoSem.Claim
import GoSem.ClaimJoined
import GoSem.ClaimMapViews
import Derived.JoinedTies
import Derived.KernelRfl
namespace Go.Proofs.YthhfdlhbhfkbdaaDoor
/- THE CELL 'sum', in the pinned program and in every row, IS THE sha256 OF THE DUMP (.gsa) THAT YthhfdlhbhfkbdaaDoorProg.lean LOADS. Nothing in Lean hashes anything: it is a label: what it is worth is what the hold of that sum in a sandbox is worth. -/
noncomputable def Tryd.pinned : Pinned := { name := "ythhfdlhbhfkbdaadoor", sum := "f5525f404816aed74ade605d95f78e82918ea3d444b341522c68faea8b9ed88e", checked := Tryd.checked }
namespace Rows
def none {H : Type} : Left H := { results := [], args := [] }

/- WHAT THE LISTED PACKAGE-LEVEL VARIABLES READ AS WHEN THE CALL BEGINS. Each datum BY PROGRAM (the guide's laid-datum.mjs) off the statement by which the dump's own 'gosem.cut.vars' lays the variable. In a bare row this is a premise. The card (YthhfdlhbhfkbdaaDoorCards.lean) ties it to the program's text. -/
def laid_liquidcheck_names_keywords {H : Type} : DataW H := .agg [.lit (.string [97, 110, 100]), .lit (.string [97, 115, 115, 117, 109, 101]), .lit (.string [98, 111, 111, 108]), .lit (.string [98, 111, 117, 110, 100]), .lit (.string [99, 97, 115, 101]), .lit (.string [99, 101, 108, 108]), .lit (.string [99, 108, 97, 115, 115]), .lit (.string [100, 97, 116, 97]), .lit (.string [100, 101, 102]), .lit (.string [100, 105, 118]), .lit (.string [101, 108, 115, 101]), .lit (.string [101, 110, 100]), .lit (.string [102, 97, 108, 115, 101]), .lit (.string [102, 111, 114, 97, 108, 108]), .lit (.string [102, 117, 110]), .lit (.string [103, 101, 116]), .lit (.string [105, 102]), .lit (.string [105, 110]), .lit (.string [105, 110, 115, 116]), .lit (.string [105, 110, 116]), .lit (.string [105, 110, 118, 97, 114, 105, 97, 110, 116]), .lit (.string [108, 101, 116]), .lit (.string [109, 97, 116, 99, 104]), .lit (.string [109, 101, 97, 115, 117, 114, 101]), .lit (.string [109, 101, 116, 114, 105, 99]), .lit (.string [109, 111, 100]), .lit (.string [109, 117]), .lit (.string [110, 101, 119]), .lit (.string [110, 111, 116]), .lit (.string [111, 102]), .lit (.string [111, 114]), .lit (.string [113, 117, 97, 108]), .lit (.string [114, 101, 102, 108, 101, 99, 116]), .lit (.string [115, 101, 116]), .lit (.string [116, 104, 101, 110]), .lit (.string [116, 114, 117, 101]), .lit (.string [117, 115, 101]), .lit (.string [118]), .lit (.string [118, 97, 108]), .lit (.string [116, 97, 103]), .lit (.string [119, 104, 101, 114, 101]), .lit (.string [119, 105, 116, 104])]

/-- 'liquidchecklaw06.SortChecks': WHATEVER THE INPUT: true; the input reads as it did. -/
def sortChecksSpec : ChangeSpec := { name := "sortChecks", fn := fun _ => fun
  | [d1, d2] => { results := [.lit (.bool true)], args := [d1, d2] }
  | _ => none }
def sortChecksRow : OpenClaim := { program := "ythhfdlhbhfkbdaadoor", sum := "f5525f404816aed74ade605d95f78e82918ea3d444b341522c68faea8b9ed88e", func := "liquidcheck/liquidchecklaw06.SortChecks", spec := "sortChecks", named := ["liquidcheck/names.keywords"], apart := false, laid := [("liquidcheck/names.keywords", laid_liquidcheck_names_keywords)] }
def SortChecksSaid : Prop := sortChecksRow.holds Tryd.pinned (OpenSpec.ofChange sortChecksSpec)

/-- ITS FALSE NEIGHBOUR: 'it returns false'. Refute it at one input. -/
def sortChecksWrong : ChangeSpec := { name := "sortChecks", fn := fun _ => fun
  | [d1, d2] => { results := [.lit (.bool false)], args := [d1, d2] }
  | _ => none }
def SortChecksWrongFalsely : Prop := sortChecksRow.holds Tryd.pinned (OpenSpec.ofChange sortChecksWrong)

/-- 'liquidchecklaw06.SortEnvs': WHATEVER THE INPUT: true; the input reads as it did. -/
def sortEnvsSpec : ChangeSpec := { name := "sortEnvs", fn := fun _ => fun
  | [d] => { results := [.lit (.bool true)], args := [d] }
  | _ => none }
def sortEnvsRow : OpenClaim := { program := "ythhfdlhbhfkbdaadoor", sum := "f5525f404816aed74ade605d95f78e82918ea3d444b341522c68faea8b9ed88e", func := "liquidcheck/liquidchecklaw06.SortEnvs", spec := "sortEnvs", named := ["liquidcheck/names.keywords"], apart := false, laid := [("liquidcheck/names.keywords", laid_liquidcheck_names_keywords)] }
def SortEnvsSaid : Prop := sortEnvsRow.holds Tryd.pinned (OpenSpec.ofChange sortEnvsSpec)

/-- ITS FALSE NEIGHBOUR: 'it returns false'. Refute it at one input. -/
def sortEnvsWrong : ChangeSpec := { name := "sortEnvs", fn := fun _ => fun
  | [d] => { results := [.lit (.bool false)], args := [d] }
  | _ => none }
def SortEnvsWrongFalsely : Prop := sortEnvsRow.holds Tryd.pinned (OpenSpec.ofChange sortEnvsWrong)

/-- 'liquidchecklaw06.SortFinds': WHATEVER THE INPUT: true; the input reads as it did. -/
def sortFindsSpec : ChangeSpec := { name := "sortFinds", fn := fun _ => fun
  | [d1, d2] => { results := [.lit (.bool true)], args := [d1, d2] }
  | _ => none }
def sortFindsRow : OpenClaim := { program := "ythhfdlhbhfkbdaadoor", sum := "f5525f404816aed74ade605d95f78e82918ea3d444b341522c68faea8b9ed88e", func := "liquidcheck/liquidchecklaw06.SortFinds", spec := "sortFinds", named := ["liquidcheck/names.keywords"], apart := false, laid := [("liquidcheck/names.keywords", laid_liquidcheck_names_keywords)] }
def SortFindsSaid : Prop := sortFindsRow.holds Tryd.pinned (OpenSpec.ofChange sortFindsSpec)

/-- ITS FALSE NEIGHBOUR: 'it returns false'. Refute it at one input. -/
def sortFindsWrong : ChangeSpec := { name := "sortFinds", fn := fun _ => fun
  | [d1, d2] => { results := [.lit (.bool false)], args := [d1, d2] }
  | _ => none }
def SortFindsWrongFalsely : Prop := sortFindsRow.holds Tryd.pinned (OpenSpec.ofChange sortFindsWrong)

/-- 'liquidchecklaw06.SortTypes': WHATEVER THE INPUT: true; the input reads as it did. -/
def sortTypesSpec : ChangeSpec := { name := "sortTypes", fn := fun _ => fun
  | [d] => { results := [.lit (.bool true)], args := [d] }
  | _ => none }
def sortTypesRow : OpenClaim := { program := "ythhfdlhbhfkbdaadoor", sum := "f5525f404816aed74ade605d95f78e82918ea3d444b341522c68faea8b9ed88e", func := "liquidcheck/liquidchecklaw06.SortTypes", spec := "sortTypes", named := ["liquidcheck/names.keywords"], loops := true, apart := false, laid := [("liquidcheck/names.keywords", laid_liquidcheck_names_keywords)] }
def SortTypesSaid : Prop := sortTypesRow.holds Tryd.pinned (OpenSpec.ofChange sortTypesSpec)

/-- ITS FALSE NEIGHBOUR: 'it returns false'. Refute it at one input. -/
def sortTypesWrong : ChangeSpec := { name := "sortTypes", fn := fun _ => fun
  | [d] => { results := [.lit (.bool false)], args := [d] }
  | _ => none }
def SortTypesWrongFalsely : Prop := sortTypesRow.holds Tryd.pinned (OpenSpec.ofChange sortTypesWrong)

/-- 'liquidchecklaw06.SortWith': WHATEVER THE INPUT: true; the input reads as it did. -/
def sortWithSpec : ChangeSpec := { name := "sortWith", fn := fun _ => fun
  | [d1, d2] => { results := [.lit (.bool true)], args := [d1, d2] }
  | _ => none }
def sortWithRow : OpenClaim := { program := "ythhfdlhbhfkbdaadoor", sum := "f5525f404816aed74ade605d95f78e82918ea3d444b341522c68faea8b9ed88e", func := "liquidcheck/liquidchecklaw06.SortWith", spec := "sortWith", named := ["liquidcheck/names.keywords"], apart := false, laid := [("liquidcheck/names.keywords", laid_liquidcheck_names_keywords)] }
def SortWithSaid : Prop := sortWithRow.holds Tryd.pinned (OpenSpec.ofChange sortWithSpec)

/-- ITS FALSE NEIGHBOUR: 'it returns false'. Refute it at one input. -/
def sortWithWrong : ChangeSpec := { name := "sortWith", fn := fun _ => fun
  | [d1, d2] => { results := [.lit (.bool false)], args := [d1, d2] }
  | _ => none }
def SortWithWrongFalsely : Prop := sortWithRow.holds Tryd.pinned (OpenSpec.ofChange sortWithWrong)

/-- 'liquidchecklaw06.SortLooks': WHATEVER THE INPUT: true; the input reads as it did. -/
def sortLooksSpec : ChangeSpec := { name := "sortLooks", fn := fun _ => fun
  | [d1, d2, d3] => { results := [.lit (.bool true)], args := [d1, d2, d3] }
  | _ => none }
def sortLooksRow : OpenClaim := { program := "ythhfdlhbhfkbdaadoor", sum := "f5525f404816aed74ade605d95f78e82918ea3d444b341522c68faea8b9ed88e", func := "liquidcheck/liquidchecklaw06.SortLooks", spec := "sortLooks", named := ["liquidcheck/names.keywords"], apart := false, laid := [("liquidcheck/names.keywords", laid_liquidcheck_names_keywords)] }
def SortLooksSaid : Prop := sortLooksRow.holds Tryd.pinned (OpenSpec.ofChange sortLooksSpec)

/-- ITS FALSE NEIGHBOUR: 'it returns false'. Refute it at one input. -/
def sortLooksWrong : ChangeSpec := { name := "sortLooks", fn := fun _ => fun
  | [d1, d2, d3] => { results := [.lit (.bool false)], args := [d1, d2, d3] }
  | _ => none }
def SortLooksWrongFalsely : Prop := sortLooksRow.holds Tryd.pinned (OpenSpec.ofChange sortLooksWrong)

/-- 'liquidchecklaw06.SortGrows': WHATEVER THE INPUT: true; the input reads as it did. -/
def sortGrowsSpec : ChangeSpec := { name := "sortGrows", fn := fun _ => fun
  | [d1, d2] => { results := [.lit (.bool true)], args := [d1, d2] }
  | _ => none }
def sortGrowsRow : OpenClaim := { program := "ythhfdlhbhfkbdaadoor", sum := "f5525f404816aed74ade605d95f78e82918ea3d444b341522c68faea8b9ed88e", func := "liquidcheck/liquidchecklaw06.SortGrows", spec := "sortGrows", named := ["liquidcheck/names.keywords"], apart := false, laid := [("liquidcheck/names.keywords", laid_liquidcheck_names_keywords)] }
def SortGrowsSaid : Prop := sortGrowsRow.holds Tryd.pinned (OpenSpec.ofChange sortGrowsSpec)

/-- ITS FALSE NEIGHBOUR: 'it returns false'. Refute it at one input. -/
def sortGrowsWrong : ChangeSpec := { name := "sortGrows", fn := fun _ => fun
  | [d1, d2] => { results := [.lit (.bool false)], args := [d1, d2] }
  | _ => none }
def SortGrowsWrongFalsely : Prop := sortGrowsRow.holds Tryd.pinned (OpenSpec.ofChange sortGrowsWrong)

/- THE SECOND FORM. 'bulk': how many values and letters a reading holds, each counted each time it is reached (what is shared counts as often as it is met; a slice's spare places count too). A statement '..UptoSaid' is the law's where the arguments, and the package variables that the reading takes, are together of bulk at most 1048576: NARROWER than '..Said'. Prove '..Said' where nothing that the law and all that it calls make is longer than what came in: it says more and counts as full. Else prove '..UptoSaid'. A law counts once. -/
mutual
def uptoBulk {H : Type} : DataW H → Nat
  | .lit (.string bytes) => bytes.length + 1
  | .lit _ => 1
  | .nil => 1
  | .ptr d => uptoBulk d + 1
  | .slice elems spare => uptoBulkAll elems + uptoBulkAll spare + 1
  | .agg parts => uptoBulkAll parts + 1
  | .iface _ d => uptoBulk d + 1
  | .map entries => uptoBulkEntries entries + 1
  | .held _ => 1
def uptoBulkAll {H : Type} : List (DataW H) → Nat
  | [] => 0
  | d :: r => uptoBulk d + uptoBulkAll r
def uptoBulkEntries {H : Type} : List (Lit × DataW H) → Nat
  | [] => 0
  | x :: r => uptoBulkEntry x + uptoBulkEntries r
def uptoBulkEntry {H : Type} : Lit × DataW H → Nat
  | (.string bytes, d) => bytes.length + uptoBulk d + 1
  | (_, d) => uptoBulk d + 1
 end
def uptoSmall : (H : Type) → List (DataW H) → Bool := fun _ ds => decide (uptoBulkAll ds ≤ 1048576)
def OpenSpec.upto (s : _root_.Go.ChangeSpec) : _root_.Go.OpenSpec := { _root_.Go.OpenSpec.ofChange s with cond := some uptoSmall }

/-- 'liquidchecklaw06.SortChecks', WHERE WHAT IT READS IS OF BULK AT MOST 1048576: true; the input reads as it did. -/
def sortChecksUptoRow : OpenClaim := { program := "ythhfdlhbhfkbdaadoor", sum := "f5525f404816aed74ade605d95f78e82918ea3d444b341522c68faea8b9ed88e", func := "liquidcheck/liquidchecklaw06.SortChecks", spec := "sortChecks", named := ["liquidcheck/names.keywords"], apart := false, laid := [("liquidcheck/names.keywords", laid_liquidcheck_names_keywords)], narrowed := true }
def SortChecksUptoSaid : Prop := sortChecksUptoRow.holds Tryd.pinned (OpenSpec.upto sortChecksSpec)

/-- 'liquidchecklaw06.SortEnvs', WHERE WHAT IT READS IS OF BULK AT MOST 1048576: true; the input reads as it did. -/
def sortEnvsUptoRow : OpenClaim := { program := "ythhfdlhbhfkbdaadoor", sum := "f5525f404816aed74ade605d95f78e82918ea3d444b341522c68faea8b9ed88e", func := "liquidcheck/liquidchecklaw06.SortEnvs", spec := "sortEnvs", named := ["liquidcheck/names.keywords"], apart := false, laid := [("liquidcheck/names.keywords", laid_liquidcheck_names_keywords)], narrowed := true }
def SortEnvsUptoSaid : Prop := sortEnvsUptoRow.holds Tryd.pinned (OpenSpec.upto sortEnvsSpec)

/-- 'liquidchecklaw06.SortFinds', WHERE WHAT IT READS IS OF BULK AT MOST 1048576: true; the input reads as it did. -/
def sortFindsUptoRow : OpenClaim := { program := "ythhfdlhbhfkbdaadoor", sum := "f5525f404816aed74ade605d95f78e82918ea3d444b341522c68faea8b9ed88e", func := "liquidcheck/liquidchecklaw06.SortFinds", spec := "sortFinds", named := ["liquidcheck/names.keywords"], apart := false, laid := [("liquidcheck/names.keywords", laid_liquidcheck_names_keywords)], narrowed := true }
def SortFindsUptoSaid : Prop := sortFindsUptoRow.holds Tryd.pinned (OpenSpec.upto sortFindsSpec)

/-- 'liquidchecklaw06.SortTypes', WHERE WHAT IT READS IS OF BULK AT MOST 1048576: true; the input reads as it did. -/
def sortTypesUptoRow : OpenClaim := { program := "ythhfdlhbhfkbdaadoor", sum := "f5525f404816aed74ade605d95f78e82918ea3d444b341522c68faea8b9ed88e", func := "liquidcheck/liquidchecklaw06.SortTypes", spec := "sortTypes", named := ["liquidcheck/names.keywords"], loops := true, apart := false, laid := [("liquidcheck/names.keywords", laid_liquidcheck_names_keywords)], narrowed := true }
def SortTypesUptoSaid : Prop := sortTypesUptoRow.holds Tryd.pinned (OpenSpec.upto sortTypesSpec)

/-- 'liquidchecklaw06.SortWith', WHERE WHAT IT READS IS OF BULK AT MOST 1048576: true; the input reads as it did. -/
def sortWithUptoRow : OpenClaim := { program := "ythhfdlhbhfkbdaadoor", sum := "f5525f404816aed74ade605d95f78e82918ea3d444b341522c68faea8b9ed88e", func := "liquidcheck/liquidchecklaw06.SortWith", spec := "sortWith", named := ["liquidcheck/names.keywords"], apart := false, laid := [("liquidcheck/names.keywords", laid_liquidcheck_names_keywords)], narrowed := true }
def SortWithUptoSaid : Prop := sortWithUptoRow.holds Tryd.pinned (OpenSpec.upto sortWithSpec)

/-- 'liquidchecklaw06.SortLooks', WHERE WHAT IT READS IS OF BULK AT MOST 1048576: true; the input reads as it did. -/
def sortLooksUptoRow : OpenClaim := { program := "ythhfdlhbhfkbdaadoor", sum := "f5525f404816aed74ade605d95f78e82918ea3d444b341522c68faea8b9ed88e", func := "liquidcheck/liquidchecklaw06.SortLooks", spec := "sortLooks", named := ["liquidcheck/names.keywords"], apart := false, laid := [("liquidcheck/names.keywords", laid_liquidcheck_names_keywords)], narrowed := true }
def SortLooksUptoSaid : Prop := sortLooksUptoRow.holds Tryd.pinned (OpenSpec.upto sortLooksSpec)

/-- 'liquidchecklaw06.SortGrows', WHERE WHAT IT READS IS OF BULK AT MOST 1048576: true; the input reads as it did. -/
def sortGrowsUptoRow : OpenClaim := { program := "ythhfdlhbhfkbdaadoor", sum := "f5525f404816aed74ade605d95f78e82918ea3d444b341522c68faea8b9ed88e", func := "liquidcheck/liquidchecklaw06.SortGrows", spec := "sortGrows", named := ["liquidcheck/names.keywords"], apart := false, laid := [("liquidcheck/names.keywords", laid_liquidcheck_names_keywords)], narrowed := true }
def SortGrowsUptoSaid : Prop := sortGrowsUptoRow.holds Tryd.pinned (OpenSpec.upto sortGrowsSpec)

end Rows
end Go.Proofs.YthhfdlhbhfkbdaaDoor
