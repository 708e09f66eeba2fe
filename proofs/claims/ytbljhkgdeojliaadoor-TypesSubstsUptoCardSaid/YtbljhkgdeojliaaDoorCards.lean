/-
  DERIVED. GIVEN WITH THE SEED: THE CARDS: each row of YtbljhkgdeojliaaDoorRows.lean that lists a variable, with what it lists TIED to the program's text (the seventh form; the later family's looks); each row that meets fmt, with fmt's text TOLD by the authors' own Lean function (tested against real Go, not proved from fmt's source: count such statements apart). THE CARD IS WHAT COUNTS. Prove the row's statement (the work); the ties are given (YtbljhkgdeojliaaDoorTie.lean); close each card by the builder's one call (the guide's Derived/Test/ToyasCard.lean, 'card_holds'). Laid BY PROGRAM, IN A SANDBOX (cutbox-door.mjs). By AI agents, Wed Nov 11 2026. No macro, syntax, notation, axiom, sorry.
-/
import Derived.Test.YtbljhkgdeojliaaDoorRows
import GoSem.ClaimSeven
namespace Go.Proofs.YtbljhkgdeojliaaDoor
namespace Rows

/-- THE TIED CARD OF 'liquidchecklaw25.ClassesChecks'. -/
def classesChecksCard : Claim7 := { stood := { row := classesChecksRow, standIns := [], harness := (true, "6adbc7fc6a5867ef6d4f1d66e6a17a74e0bce6a5b67af6770ffd20ad30d0b54a"), looks := false }, kinds := [], alts := [], laidByText := true, laidKinds := [.data], laidTests := true, laidLooks := .later }
def ClassesChecksCardSaid : Prop := Claim7.holds Tryd.pinned (.plain (OpenSpec.ofChange classesChecksSpec)) classesChecksCard

/-- THE TIED CARD OF 'liquidchecklaw25.ClassesMethods'. -/
def classesMethodsCard : Claim7 := { stood := { row := classesMethodsRow, standIns := [], harness := (true, "6adbc7fc6a5867ef6d4f1d66e6a17a74e0bce6a5b67af6770ffd20ad30d0b54a"), looks := false }, kinds := [], alts := [], laidByText := true, laidKinds := [.data], laidTests := true, laidLooks := .later }
def ClassesMethodsCardSaid : Prop := Claim7.holds Tryd.pinned (.plain (OpenSpec.ofChange classesMethodsSpec)) classesMethodsCard

/-- THE TIED CARD OF 'liquidchecklaw25.ClassesOrder'. -/
def classesOrderCard : Claim7 := { stood := { row := classesOrderRow, standIns := [], harness := (true, "6adbc7fc6a5867ef6d4f1d66e6a17a74e0bce6a5b67af6770ffd20ad30d0b54a"), looks := false }, kinds := [], alts := [], laidByText := true, laidKinds := [.data], laidTests := true, laidLooks := .later }
def ClassesOrderCardSaid : Prop := Claim7.holds Tryd.pinned (.plain (OpenSpec.ofChange classesOrderSpec)) classesOrderCard

/-- THE TIED CARD OF 'liquidchecklaw19.TypesChecks'. -/
def typesChecksCard : Claim7 := { stood := { row := typesChecksRow, standIns := [], harness := (true, "6adbc7fc6a5867ef6d4f1d66e6a17a74e0bce6a5b67af6770ffd20ad30d0b54a"), looks := false }, kinds := [], alts := [], laidByText := true, laidKinds := [.data, .data, .data, .data], laidTests := true, laidLooks := .later }
def TypesChecksCardSaid : Prop := Claim7.holds Tryd.pinned (.plain (OpenSpec.ofChange typesChecksSpec)) typesChecksCard

/-- THE TIED CARD OF 'liquidchecklaw19.TypesDeep'. -/
def typesDeepCard : Claim7 := { stood := { row := typesDeepRow, standIns := [], harness := (true, "6adbc7fc6a5867ef6d4f1d66e6a17a74e0bce6a5b67af6770ffd20ad30d0b54a"), looks := false }, kinds := [], alts := [], laidByText := true, laidKinds := [.data, .data, .data, .data], laidTests := true, laidLooks := .later }
def TypesDeepCardSaid : Prop := Claim7.holds Tryd.pinned (.plain (OpenSpec.ofChange typesDeepSpec)) typesDeepCard

/-- THE TIED CARD OF 'liquidchecklaw19.TypesTexts'. -/
def typesTextsCard : Claim7 := { stood := { row := typesTextsRow, standIns := [], harness := (true, "6adbc7fc6a5867ef6d4f1d66e6a17a74e0bce6a5b67af6770ffd20ad30d0b54a"), looks := false }, kinds := [], alts := [], laidByText := true, laidKinds := [.data, .data, .data, .data], laidTests := true, laidLooks := .later }
def TypesTextsCardSaid : Prop := Claim7.holds Tryd.pinned (.plain (OpenSpec.ofChange typesTextsSpec)) typesTextsCard

/-- THE TIED CARD OF 'liquidchecklaw19.TypesUnifies'. -/
def typesUnifiesCard : Claim7 := { stood := { row := typesUnifiesRow, standIns := [], harness := (true, "6adbc7fc6a5867ef6d4f1d66e6a17a74e0bce6a5b67af6770ffd20ad30d0b54a"), looks := false }, kinds := [], alts := [], laidByText := true, laidKinds := [.data, .data, .data, .data], laidTests := true, laidLooks := .later }
def TypesUnifiesCardSaid : Prop := Claim7.holds Tryd.pinned (.plain (OpenSpec.ofChange typesUnifiesSpec)) typesUnifiesCard

/-- THE TIED CARD OF 'liquidchecklaw19.TypesSubsts'. -/
def typesSubstsCard : Claim7 := { stood := { row := typesSubstsRow, standIns := [], harness := (true, "6adbc7fc6a5867ef6d4f1d66e6a17a74e0bce6a5b67af6770ffd20ad30d0b54a"), looks := false }, kinds := [], alts := [], laidByText := true, laidKinds := [.data, .data, .data, .data], laidTests := true, laidLooks := .later }
def TypesSubstsCardSaid : Prop := Claim7.holds Tryd.pinned (.plain (OpenSpec.ofChange typesSubstsSpec)) typesSubstsCard

/-- THE TIED CARD OF 'liquidchecklaw19.TypesUnified'. -/
def typesUnifiedCard : Claim7 := { stood := { row := typesUnifiedRow, standIns := [], harness := (true, "6adbc7fc6a5867ef6d4f1d66e6a17a74e0bce6a5b67af6770ffd20ad30d0b54a"), looks := false }, kinds := [], alts := [], laidByText := true, laidKinds := [.data, .data, .data, .data], laidTests := true, laidLooks := .later }
def TypesUnifiedCardSaid : Prop := Claim7.holds Tryd.pinned (.plain (OpenSpec.ofChange typesUnifiedSpec)) typesUnifiedCard

/-- THE TIED CARD OF 'liquidchecklaw19.TypesGeneral'. -/
def typesGeneralCard : Claim7 := { stood := { row := typesGeneralRow, standIns := [], harness := (true, "6adbc7fc6a5867ef6d4f1d66e6a17a74e0bce6a5b67af6770ffd20ad30d0b54a"), looks := false }, kinds := [], alts := [], laidByText := true, laidKinds := [.data, .data, .data, .data], laidTests := true, laidLooks := .later }
def TypesGeneralCardSaid : Prop := Claim7.holds Tryd.pinned (.plain (OpenSpec.ofChange typesGeneralSpec)) typesGeneralCard

/-- THE SECOND FORM's CARD OF 'liquidchecklaw25.ClassesChecks'. -/
def classesChecksUptoCard : Claim7 := { stood := { row := classesChecksUptoRow, standIns := [], harness := (true, "6adbc7fc6a5867ef6d4f1d66e6a17a74e0bce6a5b67af6770ffd20ad30d0b54a"), looks := false }, kinds := [], alts := [], laidByText := true, laidKinds := [.data], laidTests := true, laidLooks := .later }
def ClassesChecksUptoCardSaid : Prop := Claim7.holds Tryd.pinned (.plain (OpenSpec.upto classesChecksSpec)) classesChecksUptoCard

/-- THE SECOND FORM's CARD OF 'liquidchecklaw25.ClassesMethods'. -/
def classesMethodsUptoCard : Claim7 := { stood := { row := classesMethodsUptoRow, standIns := [], harness := (true, "6adbc7fc6a5867ef6d4f1d66e6a17a74e0bce6a5b67af6770ffd20ad30d0b54a"), looks := false }, kinds := [], alts := [], laidByText := true, laidKinds := [.data], laidTests := true, laidLooks := .later }
def ClassesMethodsUptoCardSaid : Prop := Claim7.holds Tryd.pinned (.plain (OpenSpec.upto classesMethodsSpec)) classesMethodsUptoCard

/-- THE SECOND FORM's CARD OF 'liquidchecklaw25.ClassesOrder'. -/
def classesOrderUptoCard : Claim7 := { stood := { row := classesOrderUptoRow, standIns := [], harness := (true, "6adbc7fc6a5867ef6d4f1d66e6a17a74e0bce6a5b67af6770ffd20ad30d0b54a"), looks := false }, kinds := [], alts := [], laidByText := true, laidKinds := [.data], laidTests := true, laidLooks := .later }
def ClassesOrderUptoCardSaid : Prop := Claim7.holds Tryd.pinned (.plain (OpenSpec.upto classesOrderSpec)) classesOrderUptoCard

/-- THE SECOND FORM's CARD OF 'liquidchecklaw19.TypesChecks'. -/
def typesChecksUptoCard : Claim7 := { stood := { row := typesChecksUptoRow, standIns := [], harness := (true, "6adbc7fc6a5867ef6d4f1d66e6a17a74e0bce6a5b67af6770ffd20ad30d0b54a"), looks := false }, kinds := [], alts := [], laidByText := true, laidKinds := [.data, .data, .data, .data], laidTests := true, laidLooks := .later }
def TypesChecksUptoCardSaid : Prop := Claim7.holds Tryd.pinned (.plain (OpenSpec.upto typesChecksSpec)) typesChecksUptoCard

/-- THE SECOND FORM's CARD OF 'liquidchecklaw19.TypesDeep'. -/
def typesDeepUptoCard : Claim7 := { stood := { row := typesDeepUptoRow, standIns := [], harness := (true, "6adbc7fc6a5867ef6d4f1d66e6a17a74e0bce6a5b67af6770ffd20ad30d0b54a"), looks := false }, kinds := [], alts := [], laidByText := true, laidKinds := [.data, .data, .data, .data], laidTests := true, laidLooks := .later }
def TypesDeepUptoCardSaid : Prop := Claim7.holds Tryd.pinned (.plain (OpenSpec.upto typesDeepSpec)) typesDeepUptoCard

/-- THE SECOND FORM's CARD OF 'liquidchecklaw19.TypesTexts'. -/
def typesTextsUptoCard : Claim7 := { stood := { row := typesTextsUptoRow, standIns := [], harness := (true, "6adbc7fc6a5867ef6d4f1d66e6a17a74e0bce6a5b67af6770ffd20ad30d0b54a"), looks := false }, kinds := [], alts := [], laidByText := true, laidKinds := [.data, .data, .data, .data], laidTests := true, laidLooks := .later }
def TypesTextsUptoCardSaid : Prop := Claim7.holds Tryd.pinned (.plain (OpenSpec.upto typesTextsSpec)) typesTextsUptoCard

/-- THE SECOND FORM's CARD OF 'liquidchecklaw19.TypesUnifies'. -/
def typesUnifiesUptoCard : Claim7 := { stood := { row := typesUnifiesUptoRow, standIns := [], harness := (true, "6adbc7fc6a5867ef6d4f1d66e6a17a74e0bce6a5b67af6770ffd20ad30d0b54a"), looks := false }, kinds := [], alts := [], laidByText := true, laidKinds := [.data, .data, .data, .data], laidTests := true, laidLooks := .later }
def TypesUnifiesUptoCardSaid : Prop := Claim7.holds Tryd.pinned (.plain (OpenSpec.upto typesUnifiesSpec)) typesUnifiesUptoCard

/-- THE SECOND FORM's CARD OF 'liquidchecklaw19.TypesSubsts'. -/
def typesSubstsUptoCard : Claim7 := { stood := { row := typesSubstsUptoRow, standIns := [], harness := (true, "6adbc7fc6a5867ef6d4f1d66e6a17a74e0bce6a5b67af6770ffd20ad30d0b54a"), looks := false }, kinds := [], alts := [], laidByText := true, laidKinds := [.data, .data, .data, .data], laidTests := true, laidLooks := .later }
def TypesSubstsUptoCardSaid : Prop := Claim7.holds Tryd.pinned (.plain (OpenSpec.upto typesSubstsSpec)) typesSubstsUptoCard

/-- THE SECOND FORM's CARD OF 'liquidchecklaw19.TypesUnified'. -/
def typesUnifiedUptoCard : Claim7 := { stood := { row := typesUnifiedUptoRow, standIns := [], harness := (true, "6adbc7fc6a5867ef6d4f1d66e6a17a74e0bce6a5b67af6770ffd20ad30d0b54a"), looks := false }, kinds := [], alts := [], laidByText := true, laidKinds := [.data, .data, .data, .data], laidTests := true, laidLooks := .later }
def TypesUnifiedUptoCardSaid : Prop := Claim7.holds Tryd.pinned (.plain (OpenSpec.upto typesUnifiedSpec)) typesUnifiedUptoCard

/-- THE SECOND FORM's CARD OF 'liquidchecklaw19.TypesGeneral'. -/
def typesGeneralUptoCard : Claim7 := { stood := { row := typesGeneralUptoRow, standIns := [], harness := (true, "6adbc7fc6a5867ef6d4f1d66e6a17a74e0bce6a5b67af6770ffd20ad30d0b54a"), looks := false }, kinds := [], alts := [], laidByText := true, laidKinds := [.data, .data, .data, .data], laidTests := true, laidLooks := .later }
def TypesGeneralUptoCardSaid : Prop := Claim7.holds Tryd.pinned (.plain (OpenSpec.upto typesGeneralSpec)) typesGeneralUptoCard
end Rows
end Go.Proofs.YtbljhkgdeojliaaDoor
