/-
  DERIVED. GIVEN WITH THE SEED: THE CARDS: each row of YtbacejmdgfalpaaDoorRows.lean that lists a variable, with what it lists TIED to the program's text (the seventh form; the later family's looks); each row that meets fmt, with fmt's text TOLD by the authors' own Lean function (tested against real Go, not proved from fmt's source: count such statements apart). THE CARD IS WHAT COUNTS. Prove the row's statement (the work); the ties are given (YtbacejmdgfalpaaDoorTie.lean); close each card by the builder's one call (the guide's Derived/Test/ToyasCard.lean, 'card_holds'). Laid BY PROGRAM, IN A SANDBOX (cutbox-door.mjs). By AI agents, Wed Nov 11 2026. No macro, syntax, notation, axiom, sorry.
-/
import Derived.Test.YtbacejmdgfalpaaDoorRows
import GoSem.ClaimSeven
namespace Go.Proofs.YtbacejmdgfalpaaDoor
namespace Rows

/-- THE TIED CARD OF 'liquidchecklaw25.ClassesChecks'. -/
def classesChecksCard : Claim7 := { stood := { row := classesChecksRow, standIns := [], harness := (true, "34823f7b29de8ef19f96f6e1a0f5a1d39e3d15de745a189b2cf049f425262bde"), looks := false }, kinds := [], alts := [], laidByText := true, laidKinds := [.data], laidTests := true, laidLooks := .later }
def ClassesChecksCardSaid : Prop := Claim7.holds Tryd.pinned (.plain (OpenSpec.ofChange classesChecksSpec)) classesChecksCard

/-- THE TIED CARD OF 'liquidchecklaw25.ClassesMethods'. -/
def classesMethodsCard : Claim7 := { stood := { row := classesMethodsRow, standIns := [], harness := (true, "34823f7b29de8ef19f96f6e1a0f5a1d39e3d15de745a189b2cf049f425262bde"), looks := false }, kinds := [], alts := [], laidByText := true, laidKinds := [.data], laidTests := true, laidLooks := .later }
def ClassesMethodsCardSaid : Prop := Claim7.holds Tryd.pinned (.plain (OpenSpec.ofChange classesMethodsSpec)) classesMethodsCard

/-- THE TIED CARD OF 'liquidchecklaw25.ClassesOrder'. -/
def classesOrderCard : Claim7 := { stood := { row := classesOrderRow, standIns := [], harness := (true, "34823f7b29de8ef19f96f6e1a0f5a1d39e3d15de745a189b2cf049f425262bde"), looks := false }, kinds := [], alts := [], laidByText := true, laidKinds := [.data], laidTests := true, laidLooks := .later }
def ClassesOrderCardSaid : Prop := Claim7.holds Tryd.pinned (.plain (OpenSpec.ofChange classesOrderSpec)) classesOrderCard

/-- THE SECOND FORM's CARD OF 'liquidchecklaw25.ClassesChecks'. -/
def classesChecksUptoCard : Claim7 := { stood := { row := classesChecksUptoRow, standIns := [], harness := (true, "34823f7b29de8ef19f96f6e1a0f5a1d39e3d15de745a189b2cf049f425262bde"), looks := false }, kinds := [], alts := [], laidByText := true, laidKinds := [.data], laidTests := true, laidLooks := .later }
def ClassesChecksUptoCardSaid : Prop := Claim7.holds Tryd.pinned (.plain (OpenSpec.upto classesChecksSpec)) classesChecksUptoCard

/-- THE SECOND FORM's CARD OF 'liquidchecklaw25.ClassesMethods'. -/
def classesMethodsUptoCard : Claim7 := { stood := { row := classesMethodsUptoRow, standIns := [], harness := (true, "34823f7b29de8ef19f96f6e1a0f5a1d39e3d15de745a189b2cf049f425262bde"), looks := false }, kinds := [], alts := [], laidByText := true, laidKinds := [.data], laidTests := true, laidLooks := .later }
def ClassesMethodsUptoCardSaid : Prop := Claim7.holds Tryd.pinned (.plain (OpenSpec.upto classesMethodsSpec)) classesMethodsUptoCard

/-- THE SECOND FORM's CARD OF 'liquidchecklaw25.ClassesOrder'. -/
def classesOrderUptoCard : Claim7 := { stood := { row := classesOrderUptoRow, standIns := [], harness := (true, "34823f7b29de8ef19f96f6e1a0f5a1d39e3d15de745a189b2cf049f425262bde"), looks := false }, kinds := [], alts := [], laidByText := true, laidKinds := [.data], laidTests := true, laidLooks := .later }
def ClassesOrderUptoCardSaid : Prop := Claim7.holds Tryd.pinned (.plain (OpenSpec.upto classesOrderSpec)) classesOrderUptoCard
end Rows
end Go.Proofs.YtbacejmdgfalpaaDoor
