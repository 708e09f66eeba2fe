/-
  DERIVED. GIVEN WITH THE SEED: THE CARDS: each row of YtmfbjecjccipfaaGreatDoorRows.lean that lists a variable, with what it lists TIED to the program's text (the seventh form; the later family's looks); each row that meets fmt, with fmt's text TOLD by the authors' own Lean function (tested against real Go, not proved from fmt's source: count such statements apart). THE CARD IS WHAT COUNTS. Prove the row's statement (the work); the ties are given (YtmfbjecjccipfaaGreatDoorTie.lean); close each card by the builder's one call (the guide's Derived/Test/ToyasCard.lean, 'card_holds'). Laid BY PROGRAM, IN A SANDBOX (cutbox-door.mjs). By AI agents, Wed Nov 11 2026. No macro, syntax, notation, axiom, sorry.
-/
import Derived.Test.YtmfbjecjccipfaaGreatDoorRows
import GoSem.ClaimSeven
namespace Go.Proofs.YtmfbjecjccipfaaGreatDoor
namespace Rows

/-- THE TIED CARD OF 'liquidchecklaw21.ParseModules'. -/
def parseModulesCard : Claim7 := { stood := { row := parseModulesRow, standIns := [], harness := (true, "78185611f853545c1ea8ee9afc93c25227507b196ca33b1f00572d9047d393a1"), looks := true }, kinds := [], alts := [], laidByText := true, laidKinds := [.data, .data, .data, .pinned], laidTests := true, laidLooks := .later }
def ParseModulesCardSaid : Prop := Claim7.holds Tryz.pinned (.plain (OpenSpec.ofChange parseModulesSpec)) parseModulesCard

/-- THE TIED CARD OF 'liquidchecklaw21.ParseDefs'. -/
def parseDefsCard : Claim7 := { stood := { row := parseDefsRow, standIns := [], harness := (true, "78185611f853545c1ea8ee9afc93c25227507b196ca33b1f00572d9047d393a1"), looks := true }, kinds := [], alts := [], laidByText := true, laidKinds := [.data, .data, .data, .pinned], laidTests := true, laidLooks := .later }
def ParseDefsCardSaid : Prop := Claim7.holds Tryz.pinned (.plain (OpenSpec.ofChange parseDefsSpec)) parseDefsCard

/-- THE SECOND FORM's CARD OF 'liquidchecklaw21.ParseModules'. -/
def parseModulesUptoCard : Claim7 := { stood := { row := parseModulesUptoRow, standIns := [], harness := (true, "78185611f853545c1ea8ee9afc93c25227507b196ca33b1f00572d9047d393a1"), looks := true }, kinds := [], alts := [], laidByText := true, laidKinds := [.data, .data, .data, .pinned], laidTests := true, laidLooks := .later }
def ParseModulesUptoCardSaid : Prop := Claim7.holds Tryz.pinned (.plain (OpenSpec.upto parseModulesSpec)) parseModulesUptoCard

/-- THE SECOND FORM's CARD OF 'liquidchecklaw21.ParseDefs'. -/
def parseDefsUptoCard : Claim7 := { stood := { row := parseDefsUptoRow, standIns := [], harness := (true, "78185611f853545c1ea8ee9afc93c25227507b196ca33b1f00572d9047d393a1"), looks := true }, kinds := [], alts := [], laidByText := true, laidKinds := [.data, .data, .data, .pinned], laidTests := true, laidLooks := .later }
def ParseDefsUptoCardSaid : Prop := Claim7.holds Tryz.pinned (.plain (OpenSpec.upto parseDefsSpec)) parseDefsUptoCard
end Rows
end Go.Proofs.YtmfbjecjccipfaaGreatDoor
