/-
  DERIVED. GIVEN WITH THE SEED: THE CARDS: each row of YtdnkdeplpnbojaaDoorRows.lean that lists a variable, with what it lists TIED to the program's text (the seventh form; the later family's looks); each row that meets fmt, with fmt's text TOLD by the authors' own Lean function (tested against real Go, not proved from fmt's source: count such statements apart). THE CARD IS WHAT COUNTS. Prove the row's statement (the work); the ties are given (YtdnkdeplpnbojaaDoorTie.lean); close each card by the builder's one call (the guide's Derived/Test/ToyasCard.lean, 'card_holds'). Laid BY PROGRAM, IN A SANDBOX (cutbox-door.mjs). By AI agents, Wed Nov 11 2026. No macro, syntax, notation, axiom, sorry.
-/
import Derived.Test.YtdnkdeplpnbojaaDoorRows
import GoSem.ClaimSeven
namespace Go.Proofs.YtdnkdeplpnbojaaDoor
namespace Rows

/-- THE TIED CARD OF 'liquidchecklaw01.NumDivides'. -/
def numDividesCard : Claim7 := { stood := { row := numDividesRow, standIns := [], harness := (true, "8c2a02858eb93bd954b6159ec50dfd01e4f2957ef08c197fea0d6ade1de7d76d"), looks := false }, kinds := [], alts := [], laidByText := true, laidKinds := [.data, .data, .data], laidTests := true, laidLooks := .later }
def NumDividesCardSaid : Prop := Claim7.holds Tryd.pinned (.plain (OpenSpec.ofChange numDividesSpec)) numDividesCard

/-- THE TIED CARD OF 'liquidchecklaw01.NumTexts'. -/
def numTextsCard : Claim7 := { stood := { row := numTextsRow, standIns := [], harness := (true, "8c2a02858eb93bd954b6159ec50dfd01e4f2957ef08c197fea0d6ade1de7d76d"), looks := false }, kinds := [], alts := [], laidByText := true, laidKinds := [.data, .data, .data], laidTests := true, laidLooks := .later }
def NumTextsCardSaid : Prop := Claim7.holds Tryd.pinned (.plain (OpenSpec.ofChange numTextsSpec)) numTextsCard

/-- THE TIED CARD OF 'liquidchecklaw01.NumRests'. -/
def numRestsCard : Claim7 := { stood := { row := numRestsRow, standIns := [], harness := (true, "8c2a02858eb93bd954b6159ec50dfd01e4f2957ef08c197fea0d6ade1de7d76d"), looks := false }, kinds := [], alts := [], laidByText := true, laidKinds := [.data, .data, .data], laidTests := true, laidLooks := .later }
def NumRestsCardSaid : Prop := Claim7.holds Tryd.pinned (.plain (OpenSpec.ofChange numRestsSpec)) numRestsCard

/-- THE TIED CARD OF 'liquidchecklaw01.NumGcds'. -/
def numGcdsCard : Claim7 := { stood := { row := numGcdsRow, standIns := [], harness := (true, "8c2a02858eb93bd954b6159ec50dfd01e4f2957ef08c197fea0d6ade1de7d76d"), looks := false }, kinds := [], alts := [], laidByText := true, laidKinds := [.data, .data, .data], laidTests := true, laidLooks := .later }
def NumGcdsCardSaid : Prop := Claim7.holds Tryd.pinned (.plain (OpenSpec.ofChange numGcdsSpec)) numGcdsCard

/-- THE TIED CARD OF 'liquidchecklaw01.NumAdds'. -/
def numAddsCard : Claim7 := { stood := { row := numAddsRow, standIns := [], harness := (true, "8c2a02858eb93bd954b6159ec50dfd01e4f2957ef08c197fea0d6ade1de7d76d"), looks := false }, kinds := [], alts := [], laidByText := true, laidKinds := [.data, .data, .data], laidTests := true, laidLooks := .later }
def NumAddsCardSaid : Prop := Claim7.holds Tryd.pinned (.plain (OpenSpec.ofChange numAddsSpec)) numAddsCard

/-- THE TIED CARD OF 'liquidchecklaw01.NumUndoes'. -/
def numUndoesCard : Claim7 := { stood := { row := numUndoesRow, standIns := [], harness := (true, "8c2a02858eb93bd954b6159ec50dfd01e4f2957ef08c197fea0d6ade1de7d76d"), looks := false }, kinds := [], alts := [], laidByText := true, laidKinds := [.data, .data, .data], laidTests := true, laidLooks := .later }
def NumUndoesCardSaid : Prop := Claim7.holds Tryd.pinned (.plain (OpenSpec.ofChange numUndoesSpec)) numUndoesCard

/-- THE TIED CARD OF 'liquidchecklaw53.ExplainErrors'. -/
def explainErrorsCard : Claim7 := { stood := { row := explainErrorsRow, standIns := [], harness := (true, "8c2a02858eb93bd954b6159ec50dfd01e4f2957ef08c197fea0d6ade1de7d76d"), looks := false }, kinds := [], alts := [], laidByText := true, laidKinds := [.data, .data, .data, .data], laidTests := true, laidLooks := .later }
def ExplainErrorsCardSaid : Prop := Claim7.holds Tryd.pinned (.plain (OpenSpec.ofChange explainErrorsSpec)) explainErrorsCard

/-- THE TIED CARD OF 'liquidchecklaw53.ExplainGoals'. -/
def explainGoalsCard : Claim7 := { stood := { row := explainGoalsRow, standIns := [], harness := (true, "8c2a02858eb93bd954b6159ec50dfd01e4f2957ef08c197fea0d6ade1de7d76d"), looks := false }, kinds := [], alts := [], laidByText := true, laidKinds := [.data, .data, .data, .data], laidTests := true, laidLooks := .later }
def ExplainGoalsCardSaid : Prop := Claim7.holds Tryd.pinned (.plain (OpenSpec.ofChange explainGoalsSpec)) explainGoalsCard

/-- THE TIED CARD OF 'liquidchecklaw53.ExplainFailures'. -/
def explainFailuresCard : Claim7 := { stood := { row := explainFailuresRow, standIns := [], harness := (true, "8c2a02858eb93bd954b6159ec50dfd01e4f2957ef08c197fea0d6ade1de7d76d"), looks := false }, kinds := [], alts := [], laidByText := true, laidKinds := [.data, .data, .data, .data], laidTests := true, laidLooks := .later }
def ExplainFailuresCardSaid : Prop := Claim7.holds Tryd.pinned (.plain (OpenSpec.ofChange explainFailuresSpec)) explainFailuresCard

/-- THE TIED CARD OF 'liquidchecklaw53.ExplainReports'. -/
def explainReportsCard : Claim7 := { stood := { row := explainReportsRow, standIns := [], harness := (true, "8c2a02858eb93bd954b6159ec50dfd01e4f2957ef08c197fea0d6ade1de7d76d"), looks := false }, kinds := [], alts := [], laidByText := true, laidKinds := [.data, .data, .data, .data], laidTests := true, laidLooks := .later }
def ExplainReportsCardSaid : Prop := Claim7.holds Tryd.pinned (.plain (OpenSpec.ofChange explainReportsSpec)) explainReportsCard

/-- THE TIED CARD OF 'liquidchecklaw53.ExplainParts'. -/
def explainPartsCard : Claim7 := { stood := { row := explainPartsRow, standIns := [], harness := (true, "8c2a02858eb93bd954b6159ec50dfd01e4f2957ef08c197fea0d6ade1de7d76d"), looks := false }, kinds := [], alts := [], laidByText := true, laidKinds := [.data, .data, .data, .data], laidTests := true, laidLooks := .later }
def ExplainPartsCardSaid : Prop := Claim7.holds Tryd.pinned (.plain (OpenSpec.ofChange explainPartsSpec)) explainPartsCard

/-- THE SECOND FORM's CARD OF 'liquidchecklaw01.NumDivides'. -/
def numDividesUptoCard : Claim7 := { stood := { row := numDividesUptoRow, standIns := [], harness := (true, "8c2a02858eb93bd954b6159ec50dfd01e4f2957ef08c197fea0d6ade1de7d76d"), looks := false }, kinds := [], alts := [], laidByText := true, laidKinds := [.data, .data, .data], laidTests := true, laidLooks := .later }
def NumDividesUptoCardSaid : Prop := Claim7.holds Tryd.pinned (.plain (OpenSpec.upto numDividesSpec)) numDividesUptoCard

/-- THE SECOND FORM's CARD OF 'liquidchecklaw01.NumTexts'. -/
def numTextsUptoCard : Claim7 := { stood := { row := numTextsUptoRow, standIns := [], harness := (true, "8c2a02858eb93bd954b6159ec50dfd01e4f2957ef08c197fea0d6ade1de7d76d"), looks := false }, kinds := [], alts := [], laidByText := true, laidKinds := [.data, .data, .data], laidTests := true, laidLooks := .later }
def NumTextsUptoCardSaid : Prop := Claim7.holds Tryd.pinned (.plain (OpenSpec.upto numTextsSpec)) numTextsUptoCard

/-- THE SECOND FORM's CARD OF 'liquidchecklaw01.NumRests'. -/
def numRestsUptoCard : Claim7 := { stood := { row := numRestsUptoRow, standIns := [], harness := (true, "8c2a02858eb93bd954b6159ec50dfd01e4f2957ef08c197fea0d6ade1de7d76d"), looks := false }, kinds := [], alts := [], laidByText := true, laidKinds := [.data, .data, .data], laidTests := true, laidLooks := .later }
def NumRestsUptoCardSaid : Prop := Claim7.holds Tryd.pinned (.plain (OpenSpec.upto numRestsSpec)) numRestsUptoCard

/-- THE SECOND FORM's CARD OF 'liquidchecklaw01.NumGcds'. -/
def numGcdsUptoCard : Claim7 := { stood := { row := numGcdsUptoRow, standIns := [], harness := (true, "8c2a02858eb93bd954b6159ec50dfd01e4f2957ef08c197fea0d6ade1de7d76d"), looks := false }, kinds := [], alts := [], laidByText := true, laidKinds := [.data, .data, .data], laidTests := true, laidLooks := .later }
def NumGcdsUptoCardSaid : Prop := Claim7.holds Tryd.pinned (.plain (OpenSpec.upto numGcdsSpec)) numGcdsUptoCard

/-- THE SECOND FORM's CARD OF 'liquidchecklaw01.NumAdds'. -/
def numAddsUptoCard : Claim7 := { stood := { row := numAddsUptoRow, standIns := [], harness := (true, "8c2a02858eb93bd954b6159ec50dfd01e4f2957ef08c197fea0d6ade1de7d76d"), looks := false }, kinds := [], alts := [], laidByText := true, laidKinds := [.data, .data, .data], laidTests := true, laidLooks := .later }
def NumAddsUptoCardSaid : Prop := Claim7.holds Tryd.pinned (.plain (OpenSpec.upto numAddsSpec)) numAddsUptoCard

/-- THE SECOND FORM's CARD OF 'liquidchecklaw01.NumUndoes'. -/
def numUndoesUptoCard : Claim7 := { stood := { row := numUndoesUptoRow, standIns := [], harness := (true, "8c2a02858eb93bd954b6159ec50dfd01e4f2957ef08c197fea0d6ade1de7d76d"), looks := false }, kinds := [], alts := [], laidByText := true, laidKinds := [.data, .data, .data], laidTests := true, laidLooks := .later }
def NumUndoesUptoCardSaid : Prop := Claim7.holds Tryd.pinned (.plain (OpenSpec.upto numUndoesSpec)) numUndoesUptoCard

/-- THE SECOND FORM's CARD OF 'liquidchecklaw53.ExplainErrors'. -/
def explainErrorsUptoCard : Claim7 := { stood := { row := explainErrorsUptoRow, standIns := [], harness := (true, "8c2a02858eb93bd954b6159ec50dfd01e4f2957ef08c197fea0d6ade1de7d76d"), looks := false }, kinds := [], alts := [], laidByText := true, laidKinds := [.data, .data, .data, .data], laidTests := true, laidLooks := .later }
def ExplainErrorsUptoCardSaid : Prop := Claim7.holds Tryd.pinned (.plain (OpenSpec.upto explainErrorsSpec)) explainErrorsUptoCard

/-- THE SECOND FORM's CARD OF 'liquidchecklaw53.ExplainGoals'. -/
def explainGoalsUptoCard : Claim7 := { stood := { row := explainGoalsUptoRow, standIns := [], harness := (true, "8c2a02858eb93bd954b6159ec50dfd01e4f2957ef08c197fea0d6ade1de7d76d"), looks := false }, kinds := [], alts := [], laidByText := true, laidKinds := [.data, .data, .data, .data], laidTests := true, laidLooks := .later }
def ExplainGoalsUptoCardSaid : Prop := Claim7.holds Tryd.pinned (.plain (OpenSpec.upto explainGoalsSpec)) explainGoalsUptoCard

/-- THE SECOND FORM's CARD OF 'liquidchecklaw53.ExplainFailures'. -/
def explainFailuresUptoCard : Claim7 := { stood := { row := explainFailuresUptoRow, standIns := [], harness := (true, "8c2a02858eb93bd954b6159ec50dfd01e4f2957ef08c197fea0d6ade1de7d76d"), looks := false }, kinds := [], alts := [], laidByText := true, laidKinds := [.data, .data, .data, .data], laidTests := true, laidLooks := .later }
def ExplainFailuresUptoCardSaid : Prop := Claim7.holds Tryd.pinned (.plain (OpenSpec.upto explainFailuresSpec)) explainFailuresUptoCard

/-- THE SECOND FORM's CARD OF 'liquidchecklaw53.ExplainReports'. -/
def explainReportsUptoCard : Claim7 := { stood := { row := explainReportsUptoRow, standIns := [], harness := (true, "8c2a02858eb93bd954b6159ec50dfd01e4f2957ef08c197fea0d6ade1de7d76d"), looks := false }, kinds := [], alts := [], laidByText := true, laidKinds := [.data, .data, .data, .data], laidTests := true, laidLooks := .later }
def ExplainReportsUptoCardSaid : Prop := Claim7.holds Tryd.pinned (.plain (OpenSpec.upto explainReportsSpec)) explainReportsUptoCard

/-- THE SECOND FORM's CARD OF 'liquidchecklaw53.ExplainParts'. -/
def explainPartsUptoCard : Claim7 := { stood := { row := explainPartsUptoRow, standIns := [], harness := (true, "8c2a02858eb93bd954b6159ec50dfd01e4f2957ef08c197fea0d6ade1de7d76d"), looks := false }, kinds := [], alts := [], laidByText := true, laidKinds := [.data, .data, .data, .data], laidTests := true, laidLooks := .later }
def ExplainPartsUptoCardSaid : Prop := Claim7.holds Tryd.pinned (.plain (OpenSpec.upto explainPartsSpec)) explainPartsUptoCard
end Rows
end Go.Proofs.YtdnkdeplpnbojaaDoor
