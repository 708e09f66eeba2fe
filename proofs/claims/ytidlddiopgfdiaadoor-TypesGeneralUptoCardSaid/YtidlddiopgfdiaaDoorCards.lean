/-
  DERIVED. GIVEN WITH THE SEED: THE CARDS: each row of YtidlddiopgfdiaaDoorRows.lean that lists a variable, with what it lists TIED to the program's text (the seventh form; the later family's looks); each row that meets fmt, with fmt's text TOLD by the authors' own Lean function (tested against real Go, not proved from fmt's source: count such statements apart). THE CARD IS WHAT COUNTS. Prove the row's statement (the work); the ties are given (YtidlddiopgfdiaaDoorTie.lean); close each card by the builder's one call (the guide's Derived/Test/ToyasCard.lean, 'card_holds'). Laid BY PROGRAM, IN A SANDBOX (cutbox-door.mjs). By AI agents, Wed Nov 11 2026. No macro, syntax, notation, axiom, sorry.
-/
import Derived.Test.YtidlddiopgfdiaaDoorRows
import GoSem.ClaimSeven
namespace Go.Proofs.YtidlddiopgfdiaaDoor
namespace Rows

/-- THE TIED CARD OF 'liquidchecklaw19.TypesUnifies'. -/
def typesUnifiesCard : Claim7 := { stood := { row := typesUnifiesRow, standIns := [], harness := (true, "6d4b448e1926115f3e40d9e06fc04b0a9d028d9a454f4f820869c50dd46e538d"), looks := false }, kinds := [], alts := [], laidByText := true, laidKinds := [.data, .data, .data, .data], laidTests := true, laidLooks := .later }
def TypesUnifiesCardSaid : Prop := Claim7.holds Tryd.pinned (.plain (OpenSpec.ofChange typesUnifiesSpec)) typesUnifiesCard

/-- THE TIED CARD OF 'liquidchecklaw19.TypesUnified'. -/
def typesUnifiedCard : Claim7 := { stood := { row := typesUnifiedRow, standIns := [], harness := (true, "6d4b448e1926115f3e40d9e06fc04b0a9d028d9a454f4f820869c50dd46e538d"), looks := false }, kinds := [], alts := [], laidByText := true, laidKinds := [.data, .data, .data, .data], laidTests := true, laidLooks := .later }
def TypesUnifiedCardSaid : Prop := Claim7.holds Tryd.pinned (.plain (OpenSpec.ofChange typesUnifiedSpec)) typesUnifiedCard

/-- THE TIED CARD OF 'liquidchecklaw19.TypesGeneral'. -/
def typesGeneralCard : Claim7 := { stood := { row := typesGeneralRow, standIns := [], harness := (true, "6d4b448e1926115f3e40d9e06fc04b0a9d028d9a454f4f820869c50dd46e538d"), looks := false }, kinds := [], alts := [], laidByText := true, laidKinds := [.data, .data, .data, .data], laidTests := true, laidLooks := .later }
def TypesGeneralCardSaid : Prop := Claim7.holds Tryd.pinned (.plain (OpenSpec.ofChange typesGeneralSpec)) typesGeneralCard

/-- THE SECOND FORM's CARD OF 'liquidchecklaw19.TypesUnifies'. -/
def typesUnifiesUptoCard : Claim7 := { stood := { row := typesUnifiesUptoRow, standIns := [], harness := (true, "6d4b448e1926115f3e40d9e06fc04b0a9d028d9a454f4f820869c50dd46e538d"), looks := false }, kinds := [], alts := [], laidByText := true, laidKinds := [.data, .data, .data, .data], laidTests := true, laidLooks := .later }
def TypesUnifiesUptoCardSaid : Prop := Claim7.holds Tryd.pinned (.plain (OpenSpec.upto typesUnifiesSpec)) typesUnifiesUptoCard

/-- THE SECOND FORM's CARD OF 'liquidchecklaw19.TypesUnified'. -/
def typesUnifiedUptoCard : Claim7 := { stood := { row := typesUnifiedUptoRow, standIns := [], harness := (true, "6d4b448e1926115f3e40d9e06fc04b0a9d028d9a454f4f820869c50dd46e538d"), looks := false }, kinds := [], alts := [], laidByText := true, laidKinds := [.data, .data, .data, .data], laidTests := true, laidLooks := .later }
def TypesUnifiedUptoCardSaid : Prop := Claim7.holds Tryd.pinned (.plain (OpenSpec.upto typesUnifiedSpec)) typesUnifiedUptoCard

/-- THE SECOND FORM's CARD OF 'liquidchecklaw19.TypesGeneral'. -/
def typesGeneralUptoCard : Claim7 := { stood := { row := typesGeneralUptoRow, standIns := [], harness := (true, "6d4b448e1926115f3e40d9e06fc04b0a9d028d9a454f4f820869c50dd46e538d"), looks := false }, kinds := [], alts := [], laidByText := true, laidKinds := [.data, .data, .data, .data], laidTests := true, laidLooks := .later }
def TypesGeneralUptoCardSaid : Prop := Claim7.holds Tryd.pinned (.plain (OpenSpec.upto typesGeneralSpec)) typesGeneralUptoCard
end Rows
end Go.Proofs.YtidlddiopgfdiaaDoor
