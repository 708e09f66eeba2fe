/-
  DERIVED. GIVEN WITH THE SEED: THE CARDS: each row of YtjpodcmhcenjjaaGreatDoorRows.lean that lists a variable, with what it lists TIED to the program's text (the seventh form; the later family's looks); each row that meets fmt, with fmt's text TOLD by the authors' own Lean function (tested against real Go, not proved from fmt's source: count such statements apart). THE CARD IS WHAT COUNTS. Prove the row's statement (the work); the ties are given (YtjpodcmhcenjjaaGreatDoorTie.lean); close each card by the builder's one call (the guide's Derived/Test/ToyasCard.lean, 'card_holds'). Laid BY PROGRAM, IN A SANDBOX (cutbox-door.mjs). By AI agents, Wed Nov 11 2026. No macro, syntax, notation, axiom, sorry.
-/
import Derived.Test.YtjpodcmhcenjjaaGreatDoorRows
import GoSem.ClaimSeven
namespace Go.Proofs.YtjpodcmhcenjjaaGreatDoor
namespace Rows

/-- THE TIED CARD OF 'liquidchecklaw21.ParseOperators'. -/
def parseOperatorsCard : Claim7 := { stood := { row := parseOperatorsRow, standIns := [], harness := (true, "91943bc1140c1d5c1d822e631a5fc833db62a055dc2d5a704463c9a7a090d5ce"), looks := true }, kinds := [], alts := [], laidByText := true, laidKinds := [.data, .data, .data, .pinned], laidTests := true, laidLooks := .later }
def ParseOperatorsCardSaid : Prop := Claim7.holds Tryz.pinned (.plain (OpenSpec.ofChange parseOperatorsSpec)) parseOperatorsCard

/-- THE TIED CARD OF 'liquidchecklaw21.ParsePreds'. -/
def parsePredsCard : Claim7 := { stood := { row := parsePredsRow, standIns := [], harness := (true, "91943bc1140c1d5c1d822e631a5fc833db62a055dc2d5a704463c9a7a090d5ce"), looks := true }, kinds := [], alts := [], laidByText := true, laidKinds := [.data, .data, .data, .pinned], laidTests := true, laidLooks := .later }
def ParsePredsCardSaid : Prop := Claim7.holds Tryz.pinned (.plain (OpenSpec.ofChange parsePredsSpec)) parsePredsCard

/-- THE TIED CARD OF 'liquidchecklaw21.ParseModules'. -/
def parseModulesCard : Claim7 := { stood := { row := parseModulesRow, standIns := [], harness := (true, "91943bc1140c1d5c1d822e631a5fc833db62a055dc2d5a704463c9a7a090d5ce"), looks := true }, kinds := [], alts := [], laidByText := true, laidKinds := [.data, .data, .data, .pinned], laidTests := true, laidLooks := .later }
def ParseModulesCardSaid : Prop := Claim7.holds Tryz.pinned (.plain (OpenSpec.ofChange parseModulesSpec)) parseModulesCard

/-- THE TIED CARD OF 'liquidchecklaw21.ParseTypes'. -/
def parseTypesCard : Claim7 := { stood := { row := parseTypesRow, standIns := [], harness := (true, "91943bc1140c1d5c1d822e631a5fc833db62a055dc2d5a704463c9a7a090d5ce"), looks := true }, kinds := [], alts := [], laidByText := true, laidKinds := [.data, .data, .data, .pinned], laidTests := true, laidLooks := .later }
def ParseTypesCardSaid : Prop := Claim7.holds Tryz.pinned (.plain (OpenSpec.ofChange parseTypesSpec)) parseTypesCard

/-- THE TIED CARD OF 'liquidchecklaw21.ParseExprs'. -/
def parseExprsCard : Claim7 := { stood := { row := parseExprsRow, standIns := [], harness := (true, "91943bc1140c1d5c1d822e631a5fc833db62a055dc2d5a704463c9a7a090d5ce"), looks := true }, kinds := [], alts := [], laidByText := true, laidKinds := [.data, .data, .data, .pinned], laidTests := true, laidLooks := .later }
def ParseExprsCardSaid : Prop := Claim7.holds Tryz.pinned (.plain (OpenSpec.ofChange parseExprsSpec)) parseExprsCard

/-- THE TIED CARD OF 'liquidchecklaw21.ParseDefs'. -/
def parseDefsCard : Claim7 := { stood := { row := parseDefsRow, standIns := [], harness := (true, "91943bc1140c1d5c1d822e631a5fc833db62a055dc2d5a704463c9a7a090d5ce"), looks := true }, kinds := [], alts := [], laidByText := true, laidKinds := [.data, .data, .data, .pinned], laidTests := true, laidLooks := .later }
def ParseDefsCardSaid : Prop := Claim7.holds Tryz.pinned (.plain (OpenSpec.ofChange parseDefsSpec)) parseDefsCard

/-- THE TIED CARD OF 'liquidchecklaw21.ParseBlanks'. -/
def parseBlanksCard : Claim7 := { stood := { row := parseBlanksRow, standIns := [], harness := (true, "91943bc1140c1d5c1d822e631a5fc833db62a055dc2d5a704463c9a7a090d5ce"), looks := true }, kinds := [], alts := [], laidByText := true, laidKinds := [.data, .data, .data, .pinned], laidTests := true, laidLooks := .later }
def ParseBlanksCardSaid : Prop := Claim7.holds Tryz.pinned (.plain (OpenSpec.ofChange parseBlanksSpec)) parseBlanksCard

/-- THE TIED CARD OF 'liquidchecklaw21.ParseParens'. -/
def parseParensCard : Claim7 := { stood := { row := parseParensRow, standIns := [], harness := (true, "91943bc1140c1d5c1d822e631a5fc833db62a055dc2d5a704463c9a7a090d5ce"), looks := true }, kinds := [], alts := [], laidByText := true, laidKinds := [.data, .data, .data, .pinned], laidTests := true, laidLooks := .later }
def ParseParensCardSaid : Prop := Claim7.holds Tryz.pinned (.plain (OpenSpec.ofChange parseParensSpec)) parseParensCard

/-- THE SECOND FORM's CARD OF 'liquidchecklaw21.ParseOperators'. -/
def parseOperatorsUptoCard : Claim7 := { stood := { row := parseOperatorsUptoRow, standIns := [], harness := (true, "91943bc1140c1d5c1d822e631a5fc833db62a055dc2d5a704463c9a7a090d5ce"), looks := true }, kinds := [], alts := [], laidByText := true, laidKinds := [.data, .data, .data, .pinned], laidTests := true, laidLooks := .later }
def ParseOperatorsUptoCardSaid : Prop := Claim7.holds Tryz.pinned (.plain (OpenSpec.upto parseOperatorsSpec)) parseOperatorsUptoCard

/-- THE SECOND FORM's CARD OF 'liquidchecklaw21.ParsePreds'. -/
def parsePredsUptoCard : Claim7 := { stood := { row := parsePredsUptoRow, standIns := [], harness := (true, "91943bc1140c1d5c1d822e631a5fc833db62a055dc2d5a704463c9a7a090d5ce"), looks := true }, kinds := [], alts := [], laidByText := true, laidKinds := [.data, .data, .data, .pinned], laidTests := true, laidLooks := .later }
def ParsePredsUptoCardSaid : Prop := Claim7.holds Tryz.pinned (.plain (OpenSpec.upto parsePredsSpec)) parsePredsUptoCard

/-- THE SECOND FORM's CARD OF 'liquidchecklaw21.ParseModules'. -/
def parseModulesUptoCard : Claim7 := { stood := { row := parseModulesUptoRow, standIns := [], harness := (true, "91943bc1140c1d5c1d822e631a5fc833db62a055dc2d5a704463c9a7a090d5ce"), looks := true }, kinds := [], alts := [], laidByText := true, laidKinds := [.data, .data, .data, .pinned], laidTests := true, laidLooks := .later }
def ParseModulesUptoCardSaid : Prop := Claim7.holds Tryz.pinned (.plain (OpenSpec.upto parseModulesSpec)) parseModulesUptoCard

/-- THE SECOND FORM's CARD OF 'liquidchecklaw21.ParseTypes'. -/
def parseTypesUptoCard : Claim7 := { stood := { row := parseTypesUptoRow, standIns := [], harness := (true, "91943bc1140c1d5c1d822e631a5fc833db62a055dc2d5a704463c9a7a090d5ce"), looks := true }, kinds := [], alts := [], laidByText := true, laidKinds := [.data, .data, .data, .pinned], laidTests := true, laidLooks := .later }
def ParseTypesUptoCardSaid : Prop := Claim7.holds Tryz.pinned (.plain (OpenSpec.upto parseTypesSpec)) parseTypesUptoCard

/-- THE SECOND FORM's CARD OF 'liquidchecklaw21.ParseExprs'. -/
def parseExprsUptoCard : Claim7 := { stood := { row := parseExprsUptoRow, standIns := [], harness := (true, "91943bc1140c1d5c1d822e631a5fc833db62a055dc2d5a704463c9a7a090d5ce"), looks := true }, kinds := [], alts := [], laidByText := true, laidKinds := [.data, .data, .data, .pinned], laidTests := true, laidLooks := .later }
def ParseExprsUptoCardSaid : Prop := Claim7.holds Tryz.pinned (.plain (OpenSpec.upto parseExprsSpec)) parseExprsUptoCard

/-- THE SECOND FORM's CARD OF 'liquidchecklaw21.ParseDefs'. -/
def parseDefsUptoCard : Claim7 := { stood := { row := parseDefsUptoRow, standIns := [], harness := (true, "91943bc1140c1d5c1d822e631a5fc833db62a055dc2d5a704463c9a7a090d5ce"), looks := true }, kinds := [], alts := [], laidByText := true, laidKinds := [.data, .data, .data, .pinned], laidTests := true, laidLooks := .later }
def ParseDefsUptoCardSaid : Prop := Claim7.holds Tryz.pinned (.plain (OpenSpec.upto parseDefsSpec)) parseDefsUptoCard

/-- THE SECOND FORM's CARD OF 'liquidchecklaw21.ParseBlanks'. -/
def parseBlanksUptoCard : Claim7 := { stood := { row := parseBlanksUptoRow, standIns := [], harness := (true, "91943bc1140c1d5c1d822e631a5fc833db62a055dc2d5a704463c9a7a090d5ce"), looks := true }, kinds := [], alts := [], laidByText := true, laidKinds := [.data, .data, .data, .pinned], laidTests := true, laidLooks := .later }
def ParseBlanksUptoCardSaid : Prop := Claim7.holds Tryz.pinned (.plain (OpenSpec.upto parseBlanksSpec)) parseBlanksUptoCard

/-- THE SECOND FORM's CARD OF 'liquidchecklaw21.ParseParens'. -/
def parseParensUptoCard : Claim7 := { stood := { row := parseParensUptoRow, standIns := [], harness := (true, "91943bc1140c1d5c1d822e631a5fc833db62a055dc2d5a704463c9a7a090d5ce"), looks := true }, kinds := [], alts := [], laidByText := true, laidKinds := [.data, .data, .data, .pinned], laidTests := true, laidLooks := .later }
def ParseParensUptoCardSaid : Prop := Claim7.holds Tryz.pinned (.plain (OpenSpec.upto parseParensSpec)) parseParensUptoCard
end Rows
end Go.Proofs.YtjpodcmhcenjjaaGreatDoor
