/-
  DERIVED. GIVEN WITH THE SEED: THE CARDS: each row of YthikbenglkfioaaGreatDoorRows.lean that lists a variable, with what it lists TIED to the program's text (the seventh form; the later family's looks); each row that meets fmt, with fmt's text TOLD by the authors' own Lean function (tested against real Go, not proved from fmt's source: count such statements apart). THE CARD IS WHAT COUNTS. Prove the row's statement (the work); the ties are given (YthikbenglkfioaaGreatDoorTie.lean); close each card by the builder's one call (the guide's Derived/Test/ToyasCard.lean, 'card_holds'). Laid BY PROGRAM, IN A SANDBOX (cutbox-door.mjs). By AI agents, Wed Nov 11 2026. No macro, syntax, notation, axiom, sorry.
-/
import Derived.Test.YthikbenglkfioaaGreatDoorRows
import GoSem.ClaimSeven
namespace Go.Proofs.YthikbenglkfioaaGreatDoor
namespace Rows

/-- THE TIED CARD OF 'liquidchecklaw36.BoundsChecks'. -/
def boundsChecksCard : Claim7 := { stood := { row := boundsChecksRow, standIns := [], harness := (true, "339e50953b16fafd929d5231377234b430b87a14d5836ac8a731e4cdf7f3d80b"), looks := false }, kinds := [], alts := [], laidByText := true, laidKinds := [.data], laidTests := true, laidLooks := .later }
def BoundsChecksCardSaid : Prop := Claim7.holds Tryz.pinned (.plain (OpenSpec.ofChange boundsChecksSpec)) boundsChecksCard

/-- THE TIED CARD OF 'liquidchecklaw36.BoundsFits'. -/
def boundsFitsCard : Claim7 := { stood := { row := boundsFitsRow, standIns := [], harness := (true, "339e50953b16fafd929d5231377234b430b87a14d5836ac8a731e4cdf7f3d80b"), looks := false }, kinds := [], alts := [], laidByText := true, laidKinds := [.data], laidTests := true, laidLooks := .later }
def BoundsFitsCardSaid : Prop := Claim7.holds Tryz.pinned (.plain (OpenSpec.ofChange boundsFitsSpec)) boundsFitsCard

/-- THE TIED CARD OF 'liquidchecklaw38.ConstraintChecks'. -/
def constraintChecksCard : Claim7 := { stood := { row := constraintChecksRow, standIns := [], harness := (true, "339e50953b16fafd929d5231377234b430b87a14d5836ac8a731e4cdf7f3d80b"), looks := false }, kinds := [], alts := [], laidByText := true, laidKinds := [.data], laidTests := true, laidLooks := .later }
def ConstraintChecksCardSaid : Prop := Claim7.holds Tryz.pinned (.plain (OpenSpec.ofChange constraintChecksSpec)) constraintChecksCard

/-- THE TIED CARD OF 'liquidchecklaw38.ConstraintRight'. -/
def constraintRightCard : Claim7 := { stood := { row := constraintRightRow, standIns := [], harness := (true, "339e50953b16fafd929d5231377234b430b87a14d5836ac8a731e4cdf7f3d80b"), looks := false }, kinds := [], alts := [], laidByText := true, laidKinds := [.data], laidTests := true, laidLooks := .later }
def ConstraintRightCardSaid : Prop := Claim7.holds Tryz.pinned (.plain (OpenSpec.ofChange constraintRightSpec)) constraintRightCard

/-- THE SECOND FORM's CARD OF 'liquidchecklaw36.BoundsChecks'. -/
def boundsChecksUptoCard : Claim7 := { stood := { row := boundsChecksUptoRow, standIns := [], harness := (true, "339e50953b16fafd929d5231377234b430b87a14d5836ac8a731e4cdf7f3d80b"), looks := false }, kinds := [], alts := [], laidByText := true, laidKinds := [.data], laidTests := true, laidLooks := .later }
def BoundsChecksUptoCardSaid : Prop := Claim7.holds Tryz.pinned (.plain (OpenSpec.upto boundsChecksSpec)) boundsChecksUptoCard

/-- THE SECOND FORM's CARD OF 'liquidchecklaw36.BoundsFits'. -/
def boundsFitsUptoCard : Claim7 := { stood := { row := boundsFitsUptoRow, standIns := [], harness := (true, "339e50953b16fafd929d5231377234b430b87a14d5836ac8a731e4cdf7f3d80b"), looks := false }, kinds := [], alts := [], laidByText := true, laidKinds := [.data], laidTests := true, laidLooks := .later }
def BoundsFitsUptoCardSaid : Prop := Claim7.holds Tryz.pinned (.plain (OpenSpec.upto boundsFitsSpec)) boundsFitsUptoCard

/-- THE SECOND FORM's CARD OF 'liquidchecklaw38.ConstraintChecks'. -/
def constraintChecksUptoCard : Claim7 := { stood := { row := constraintChecksUptoRow, standIns := [], harness := (true, "339e50953b16fafd929d5231377234b430b87a14d5836ac8a731e4cdf7f3d80b"), looks := false }, kinds := [], alts := [], laidByText := true, laidKinds := [.data], laidTests := true, laidLooks := .later }
def ConstraintChecksUptoCardSaid : Prop := Claim7.holds Tryz.pinned (.plain (OpenSpec.upto constraintChecksSpec)) constraintChecksUptoCard

/-- THE SECOND FORM's CARD OF 'liquidchecklaw38.ConstraintRight'. -/
def constraintRightUptoCard : Claim7 := { stood := { row := constraintRightUptoRow, standIns := [], harness := (true, "339e50953b16fafd929d5231377234b430b87a14d5836ac8a731e4cdf7f3d80b"), looks := false }, kinds := [], alts := [], laidByText := true, laidKinds := [.data], laidTests := true, laidLooks := .later }
def ConstraintRightUptoCardSaid : Prop := Claim7.holds Tryz.pinned (.plain (OpenSpec.upto constraintRightSpec)) constraintRightUptoCard
end Rows
end Go.Proofs.YthikbenglkfioaaGreatDoor
