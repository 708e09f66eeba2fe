/-
  DERIVED. GIVEN WITH THE SEED: THE CARDS: each row of YtlglfkdjlbcpjaaGreatDoorRows.lean that lists a variable, with what it lists TIED to the program's text (the seventh form; the later family's looks); each row that meets fmt, with fmt's text TOLD by the authors' own Lean function (tested against real Go, not proved from fmt's source: count such statements apart). THE CARD IS WHAT COUNTS. Prove the row's statement (the work); the ties are given (YtlglfkdjlbcpjaaGreatDoorTie.lean); close each card by the builder's one call (the guide's Derived/Test/ToyasCard.lean, 'card_holds'). Laid BY PROGRAM, IN A SANDBOX (cutbox-door.mjs). By AI agents, Wed Nov 11 2026. No macro, syntax, notation, axiom, sorry.
-/
import Derived.Test.YtlglfkdjlbcpjaaGreatDoorRows
import GoSem.ClaimSeven
namespace Go.Proofs.YtlglfkdjlbcpjaaGreatDoor
namespace Rows

/-- THE TIED CARD OF 'liquidchecklaw08.PredtextTexts'. -/
def predtextTextsCard : Claim7 := { stood := { row := predtextTextsRow, standIns := [], harness := (true, "6417b8b563e88c5e8a02a04bd9398d7840577d68cf3a2b2bebd16b77bd6be91f"), looks := false }, kinds := [], alts := [], laidByText := true, laidKinds := [.data, .data, .data, .data, .data, .data, .pinned], laidTests := true, laidLooks := .later }
def PredtextTextsCardSaid : Prop := Claim7.holds Tryz.pinned (.plain (OpenSpec.ofChange predtextTextsSpec)) predtextTextsCard

/-- THE TIED CARD OF 'liquidchecklaw08.PredtextForms'. -/
def predtextFormsCard : Claim7 := { stood := { row := predtextFormsRow, standIns := [], harness := (true, "6417b8b563e88c5e8a02a04bd9398d7840577d68cf3a2b2bebd16b77bd6be91f"), looks := false }, kinds := [], alts := [], laidByText := true, laidKinds := [.data, .data, .data, .data, .data, .data, .pinned], laidTests := true, laidLooks := .later }
def PredtextFormsCardSaid : Prop := Claim7.holds Tryz.pinned (.plain (OpenSpec.ofChange predtextFormsSpec)) predtextFormsCard

/-- THE TIED CARD OF 'liquidchecklaw08.PredtextParses'. -/
def predtextParsesCard : Claim7 := { stood := { row := predtextParsesRow, standIns := [], harness := (true, "6417b8b563e88c5e8a02a04bd9398d7840577d68cf3a2b2bebd16b77bd6be91f"), looks := false }, kinds := [], alts := [], laidByText := true, laidKinds := [.data, .data, .data, .data, .data, .data, .pinned], laidTests := true, laidLooks := .later }
def PredtextParsesCardSaid : Prop := Claim7.holds Tryz.pinned (.plain (OpenSpec.ofChange predtextParsesSpec)) predtextParsesCard

/-- THE TIED CARD OF 'liquidchecklaw08.PredtextReads'. -/
def predtextReadsCard : Claim7 := { stood := { row := predtextReadsRow, standIns := [], harness := (true, "6417b8b563e88c5e8a02a04bd9398d7840577d68cf3a2b2bebd16b77bd6be91f"), looks := false }, kinds := [], alts := [], laidByText := true, laidKinds := [.data, .data, .data, .data, .data, .data, .pinned], laidTests := true, laidLooks := .later }
def PredtextReadsCardSaid : Prop := Claim7.holds Tryz.pinned (.plain (OpenSpec.ofChange predtextReadsSpec)) predtextReadsCard

/-- THE TIED CARD OF 'liquidchecklaw08.PredtextRoundTrip'. -/
def predtextRoundTripCard : Claim7 := { stood := { row := predtextRoundTripRow, standIns := [], harness := (true, "6417b8b563e88c5e8a02a04bd9398d7840577d68cf3a2b2bebd16b77bd6be91f"), looks := false }, kinds := [], alts := [], laidByText := true, laidKinds := [.data, .data, .data, .data, .data, .data, .pinned], laidTests := true, laidLooks := .later }
def PredtextRoundTripCardSaid : Prop := Claim7.holds Tryz.pinned (.plain (OpenSpec.ofChange predtextRoundTripSpec)) predtextRoundTripCard

/-- THE TIED CARD OF 'liquidchecklaw08.PredtextParentheses'. -/
def predtextParenthesesCard : Claim7 := { stood := { row := predtextParenthesesRow, standIns := [], harness := (true, "6417b8b563e88c5e8a02a04bd9398d7840577d68cf3a2b2bebd16b77bd6be91f"), looks := false }, kinds := [], alts := [], laidByText := true, laidKinds := [.data, .data, .data, .data, .data, .data, .pinned], laidTests := true, laidLooks := .later }
def PredtextParenthesesCardSaid : Prop := Claim7.holds Tryz.pinned (.plain (OpenSpec.ofChange predtextParenthesesSpec)) predtextParenthesesCard

/-- THE SECOND FORM's CARD OF 'liquidchecklaw08.PredtextTexts'. -/
def predtextTextsUptoCard : Claim7 := { stood := { row := predtextTextsUptoRow, standIns := [], harness := (true, "6417b8b563e88c5e8a02a04bd9398d7840577d68cf3a2b2bebd16b77bd6be91f"), looks := false }, kinds := [], alts := [], laidByText := true, laidKinds := [.data, .data, .data, .data, .data, .data, .pinned], laidTests := true, laidLooks := .later }
def PredtextTextsUptoCardSaid : Prop := Claim7.holds Tryz.pinned (.plain (OpenSpec.upto predtextTextsSpec)) predtextTextsUptoCard

/-- THE SECOND FORM's CARD OF 'liquidchecklaw08.PredtextForms'. -/
def predtextFormsUptoCard : Claim7 := { stood := { row := predtextFormsUptoRow, standIns := [], harness := (true, "6417b8b563e88c5e8a02a04bd9398d7840577d68cf3a2b2bebd16b77bd6be91f"), looks := false }, kinds := [], alts := [], laidByText := true, laidKinds := [.data, .data, .data, .data, .data, .data, .pinned], laidTests := true, laidLooks := .later }
def PredtextFormsUptoCardSaid : Prop := Claim7.holds Tryz.pinned (.plain (OpenSpec.upto predtextFormsSpec)) predtextFormsUptoCard

/-- THE SECOND FORM's CARD OF 'liquidchecklaw08.PredtextParses'. -/
def predtextParsesUptoCard : Claim7 := { stood := { row := predtextParsesUptoRow, standIns := [], harness := (true, "6417b8b563e88c5e8a02a04bd9398d7840577d68cf3a2b2bebd16b77bd6be91f"), looks := false }, kinds := [], alts := [], laidByText := true, laidKinds := [.data, .data, .data, .data, .data, .data, .pinned], laidTests := true, laidLooks := .later }
def PredtextParsesUptoCardSaid : Prop := Claim7.holds Tryz.pinned (.plain (OpenSpec.upto predtextParsesSpec)) predtextParsesUptoCard

/-- THE SECOND FORM's CARD OF 'liquidchecklaw08.PredtextReads'. -/
def predtextReadsUptoCard : Claim7 := { stood := { row := predtextReadsUptoRow, standIns := [], harness := (true, "6417b8b563e88c5e8a02a04bd9398d7840577d68cf3a2b2bebd16b77bd6be91f"), looks := false }, kinds := [], alts := [], laidByText := true, laidKinds := [.data, .data, .data, .data, .data, .data, .pinned], laidTests := true, laidLooks := .later }
def PredtextReadsUptoCardSaid : Prop := Claim7.holds Tryz.pinned (.plain (OpenSpec.upto predtextReadsSpec)) predtextReadsUptoCard

/-- THE SECOND FORM's CARD OF 'liquidchecklaw08.PredtextRoundTrip'. -/
def predtextRoundTripUptoCard : Claim7 := { stood := { row := predtextRoundTripUptoRow, standIns := [], harness := (true, "6417b8b563e88c5e8a02a04bd9398d7840577d68cf3a2b2bebd16b77bd6be91f"), looks := false }, kinds := [], alts := [], laidByText := true, laidKinds := [.data, .data, .data, .data, .data, .data, .pinned], laidTests := true, laidLooks := .later }
def PredtextRoundTripUptoCardSaid : Prop := Claim7.holds Tryz.pinned (.plain (OpenSpec.upto predtextRoundTripSpec)) predtextRoundTripUptoCard

/-- THE SECOND FORM's CARD OF 'liquidchecklaw08.PredtextParentheses'. -/
def predtextParenthesesUptoCard : Claim7 := { stood := { row := predtextParenthesesUptoRow, standIns := [], harness := (true, "6417b8b563e88c5e8a02a04bd9398d7840577d68cf3a2b2bebd16b77bd6be91f"), looks := false }, kinds := [], alts := [], laidByText := true, laidKinds := [.data, .data, .data, .data, .data, .data, .pinned], laidTests := true, laidLooks := .later }
def PredtextParenthesesUptoCardSaid : Prop := Claim7.holds Tryz.pinned (.plain (OpenSpec.upto predtextParenthesesSpec)) predtextParenthesesUptoCard
end Rows
end Go.Proofs.YtlglfkdjlbcpjaaGreatDoor
