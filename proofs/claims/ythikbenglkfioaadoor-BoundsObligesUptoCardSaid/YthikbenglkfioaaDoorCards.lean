/-
  DERIVED. GIVEN WITH THE SEED: THE CARDS: each row of YthikbenglkfioaaDoorRows.lean that lists a variable, with what it lists TIED to the program's text (the seventh form; the later family's looks); each row that meets fmt, with fmt's text TOLD by the authors' own Lean function (tested against real Go, not proved from fmt's source: count such statements apart). THE CARD IS WHAT COUNTS. Prove the row's statement (the work); the ties are given (YthikbenglkfioaaDoorTie.lean); close each card by the builder's one call (the guide's Derived/Test/ToyasCard.lean, 'card_holds'). Laid BY PROGRAM, IN A SANDBOX (cutbox-door.mjs). By AI agents, Wed Nov 11 2026. No macro, syntax, notation, axiom, sorry.
-/
import Derived.Test.YthikbenglkfioaaDoorRows
import GoSem.ClaimSeven
namespace Go.Proofs.YthikbenglkfioaaDoor
namespace Rows

/-- THE TIED CARD OF 'liquidchecklaw36.BoundsObliges'. -/
def boundsObligesCard : Claim7 := { stood := { row := boundsObligesRow, standIns := [], harness := (true, "f54452587721f15a870a056dd5c705f5ba5cedf33d51aaa50de4626e996b7727"), looks := false }, kinds := [], alts := [], laidByText := true, laidKinds := [.data], laidTests := true, laidLooks := .later }
def BoundsObligesCardSaid : Prop := Claim7.holds Tryd.pinned (.plain (OpenSpec.ofChange boundsObligesSpec)) boundsObligesCard

/-- THE TIED CARD OF 'liquidchecklaw38.ConstraintFlats'. -/
def constraintFlatsCard : Claim7 := { stood := { row := constraintFlatsRow, standIns := [], harness := (true, "f54452587721f15a870a056dd5c705f5ba5cedf33d51aaa50de4626e996b7727"), looks := false }, kinds := [], alts := [], laidByText := true, laidKinds := [.data], laidTests := true, laidLooks := .later }
def ConstraintFlatsCardSaid : Prop := Claim7.holds Tryd.pinned (.plain (OpenSpec.ofChange constraintFlatsSpec)) constraintFlatsCard

/-- THE TIED CARD OF 'liquidchecklaw38.ConstraintParts'. -/
def constraintPartsCard : Claim7 := { stood := { row := constraintPartsRow, standIns := [], harness := (true, "f54452587721f15a870a056dd5c705f5ba5cedf33d51aaa50de4626e996b7727"), looks := false }, kinds := [], alts := [], laidByText := true, laidKinds := [.data], laidTests := true, laidLooks := .later }
def ConstraintPartsCardSaid : Prop := Claim7.holds Tryd.pinned (.plain (OpenSpec.ofChange constraintPartsSpec)) constraintPartsCard

/-- THE TIED CARD OF 'liquidchecklaw38.ConstraintJoins'. -/
def constraintJoinsCard : Claim7 := { stood := { row := constraintJoinsRow, standIns := [], harness := (true, "f54452587721f15a870a056dd5c705f5ba5cedf33d51aaa50de4626e996b7727"), looks := false }, kinds := [], alts := [], laidByText := true, laidKinds := [.data], laidTests := true, laidLooks := .later }
def ConstraintJoinsCardSaid : Prop := Claim7.holds Tryd.pinned (.plain (OpenSpec.ofChange constraintJoinsSpec)) constraintJoinsCard

/-- THE TIED CARD OF 'liquidchecklaw38.ConstraintFills'. -/
def constraintFillsCard : Claim7 := { stood := { row := constraintFillsRow, standIns := [], harness := (true, "f54452587721f15a870a056dd5c705f5ba5cedf33d51aaa50de4626e996b7727"), looks := false }, kinds := [], alts := [], laidByText := true, laidKinds := [.data], laidTests := true, laidLooks := .later }
def ConstraintFillsCardSaid : Prop := Claim7.holds Tryd.pinned (.plain (OpenSpec.ofChange constraintFillsSpec)) constraintFillsCard

/-- THE SECOND FORM's CARD OF 'liquidchecklaw36.BoundsObliges'. -/
def boundsObligesUptoCard : Claim7 := { stood := { row := boundsObligesUptoRow, standIns := [], harness := (true, "f54452587721f15a870a056dd5c705f5ba5cedf33d51aaa50de4626e996b7727"), looks := false }, kinds := [], alts := [], laidByText := true, laidKinds := [.data], laidTests := true, laidLooks := .later }
def BoundsObligesUptoCardSaid : Prop := Claim7.holds Tryd.pinned (.plain (OpenSpec.upto boundsObligesSpec)) boundsObligesUptoCard

/-- THE SECOND FORM's CARD OF 'liquidchecklaw38.ConstraintFlats'. -/
def constraintFlatsUptoCard : Claim7 := { stood := { row := constraintFlatsUptoRow, standIns := [], harness := (true, "f54452587721f15a870a056dd5c705f5ba5cedf33d51aaa50de4626e996b7727"), looks := false }, kinds := [], alts := [], laidByText := true, laidKinds := [.data], laidTests := true, laidLooks := .later }
def ConstraintFlatsUptoCardSaid : Prop := Claim7.holds Tryd.pinned (.plain (OpenSpec.upto constraintFlatsSpec)) constraintFlatsUptoCard

/-- THE SECOND FORM's CARD OF 'liquidchecklaw38.ConstraintParts'. -/
def constraintPartsUptoCard : Claim7 := { stood := { row := constraintPartsUptoRow, standIns := [], harness := (true, "f54452587721f15a870a056dd5c705f5ba5cedf33d51aaa50de4626e996b7727"), looks := false }, kinds := [], alts := [], laidByText := true, laidKinds := [.data], laidTests := true, laidLooks := .later }
def ConstraintPartsUptoCardSaid : Prop := Claim7.holds Tryd.pinned (.plain (OpenSpec.upto constraintPartsSpec)) constraintPartsUptoCard

/-- THE SECOND FORM's CARD OF 'liquidchecklaw38.ConstraintJoins'. -/
def constraintJoinsUptoCard : Claim7 := { stood := { row := constraintJoinsUptoRow, standIns := [], harness := (true, "f54452587721f15a870a056dd5c705f5ba5cedf33d51aaa50de4626e996b7727"), looks := false }, kinds := [], alts := [], laidByText := true, laidKinds := [.data], laidTests := true, laidLooks := .later }
def ConstraintJoinsUptoCardSaid : Prop := Claim7.holds Tryd.pinned (.plain (OpenSpec.upto constraintJoinsSpec)) constraintJoinsUptoCard

/-- THE SECOND FORM's CARD OF 'liquidchecklaw38.ConstraintFills'. -/
def constraintFillsUptoCard : Claim7 := { stood := { row := constraintFillsUptoRow, standIns := [], harness := (true, "f54452587721f15a870a056dd5c705f5ba5cedf33d51aaa50de4626e996b7727"), looks := false }, kinds := [], alts := [], laidByText := true, laidKinds := [.data], laidTests := true, laidLooks := .later }
def ConstraintFillsUptoCardSaid : Prop := Claim7.holds Tryd.pinned (.plain (OpenSpec.upto constraintFillsSpec)) constraintFillsUptoCard
end Rows
end Go.Proofs.YthikbenglkfioaaDoor
