/-
  DERIVED. GIVEN WITH THE SEED: THE CARDS: each row of YthhfdlhbhfkbdaaDoorRows.lean that lists a variable, with what it lists TIED to the program's text (the seventh form; the later family's looks); each row that meets fmt, with fmt's text TOLD by the authors' own Lean function (tested against real Go, not proved from fmt's source: count such statements apart). THE CARD IS WHAT COUNTS. Prove the row's statement (the work); the ties are given (YthhfdlhbhfkbdaaDoorTie.lean); close each card by the builder's one call (the guide's Derived/Test/ToyasCard.lean, 'card_holds'). Laid BY PROGRAM, IN A SANDBOX (cutbox-door.mjs). By AI agents, Wed Nov 11 2026. No macro, syntax, notation, axiom, sorry.
-/
import Derived.Test.YthhfdlhbhfkbdaaDoorRows
import GoSem.ClaimSeven
namespace Go.Proofs.YthhfdlhbhfkbdaaDoor
namespace Rows

/-- THE TIED CARD OF 'liquidchecklaw06.SortChecks'. -/
def sortChecksCard : Claim7 := { stood := { row := sortChecksRow, standIns := [], harness := (true, "dc67ba6f4d1e2a29fa5d54e86a1dffebb4b965efb32ae6e147663c6e1f3f293d"), looks := false }, kinds := [], alts := [], laidByText := true, laidKinds := [.data], laidTests := true, laidLooks := .later }
def SortChecksCardSaid : Prop := Claim7.holds Tryd.pinned (.plain (OpenSpec.ofChange sortChecksSpec)) sortChecksCard

/-- THE TIED CARD OF 'liquidchecklaw06.SortEnvs'. -/
def sortEnvsCard : Claim7 := { stood := { row := sortEnvsRow, standIns := [], harness := (true, "dc67ba6f4d1e2a29fa5d54e86a1dffebb4b965efb32ae6e147663c6e1f3f293d"), looks := false }, kinds := [], alts := [], laidByText := true, laidKinds := [.data], laidTests := true, laidLooks := .later }
def SortEnvsCardSaid : Prop := Claim7.holds Tryd.pinned (.plain (OpenSpec.ofChange sortEnvsSpec)) sortEnvsCard

/-- THE TIED CARD OF 'liquidchecklaw06.SortFinds'. -/
def sortFindsCard : Claim7 := { stood := { row := sortFindsRow, standIns := [], harness := (true, "dc67ba6f4d1e2a29fa5d54e86a1dffebb4b965efb32ae6e147663c6e1f3f293d"), looks := false }, kinds := [], alts := [], laidByText := true, laidKinds := [.data], laidTests := true, laidLooks := .later }
def SortFindsCardSaid : Prop := Claim7.holds Tryd.pinned (.plain (OpenSpec.ofChange sortFindsSpec)) sortFindsCard

/-- THE TIED CARD OF 'liquidchecklaw06.SortTypes'. -/
def sortTypesCard : Claim7 := { stood := { row := sortTypesRow, standIns := [], harness := (true, "dc67ba6f4d1e2a29fa5d54e86a1dffebb4b965efb32ae6e147663c6e1f3f293d"), looks := false }, kinds := [], alts := [], laidByText := true, laidKinds := [.data], laidTests := true, laidLooks := .later }
def SortTypesCardSaid : Prop := Claim7.holds Tryd.pinned (.plain (OpenSpec.ofChange sortTypesSpec)) sortTypesCard

/-- THE TIED CARD OF 'liquidchecklaw06.SortWith'. -/
def sortWithCard : Claim7 := { stood := { row := sortWithRow, standIns := [], harness := (true, "dc67ba6f4d1e2a29fa5d54e86a1dffebb4b965efb32ae6e147663c6e1f3f293d"), looks := false }, kinds := [], alts := [], laidByText := true, laidKinds := [.data], laidTests := true, laidLooks := .later }
def SortWithCardSaid : Prop := Claim7.holds Tryd.pinned (.plain (OpenSpec.ofChange sortWithSpec)) sortWithCard

/-- THE TIED CARD OF 'liquidchecklaw06.SortLooks'. -/
def sortLooksCard : Claim7 := { stood := { row := sortLooksRow, standIns := [], harness := (true, "dc67ba6f4d1e2a29fa5d54e86a1dffebb4b965efb32ae6e147663c6e1f3f293d"), looks := false }, kinds := [], alts := [], laidByText := true, laidKinds := [.data], laidTests := true, laidLooks := .later }
def SortLooksCardSaid : Prop := Claim7.holds Tryd.pinned (.plain (OpenSpec.ofChange sortLooksSpec)) sortLooksCard

/-- THE TIED CARD OF 'liquidchecklaw06.SortGrows'. -/
def sortGrowsCard : Claim7 := { stood := { row := sortGrowsRow, standIns := [], harness := (true, "dc67ba6f4d1e2a29fa5d54e86a1dffebb4b965efb32ae6e147663c6e1f3f293d"), looks := false }, kinds := [], alts := [], laidByText := true, laidKinds := [.data], laidTests := true, laidLooks := .later }
def SortGrowsCardSaid : Prop := Claim7.holds Tryd.pinned (.plain (OpenSpec.ofChange sortGrowsSpec)) sortGrowsCard

/-- THE SECOND FORM's CARD OF 'liquidchecklaw06.SortChecks'. -/
def sortChecksUptoCard : Claim7 := { stood := { row := sortChecksUptoRow, standIns := [], harness := (true, "dc67ba6f4d1e2a29fa5d54e86a1dffebb4b965efb32ae6e147663c6e1f3f293d"), looks := false }, kinds := [], alts := [], laidByText := true, laidKinds := [.data], laidTests := true, laidLooks := .later }
def SortChecksUptoCardSaid : Prop := Claim7.holds Tryd.pinned (.plain (OpenSpec.upto sortChecksSpec)) sortChecksUptoCard

/-- THE SECOND FORM's CARD OF 'liquidchecklaw06.SortEnvs'. -/
def sortEnvsUptoCard : Claim7 := { stood := { row := sortEnvsUptoRow, standIns := [], harness := (true, "dc67ba6f4d1e2a29fa5d54e86a1dffebb4b965efb32ae6e147663c6e1f3f293d"), looks := false }, kinds := [], alts := [], laidByText := true, laidKinds := [.data], laidTests := true, laidLooks := .later }
def SortEnvsUptoCardSaid : Prop := Claim7.holds Tryd.pinned (.plain (OpenSpec.upto sortEnvsSpec)) sortEnvsUptoCard

/-- THE SECOND FORM's CARD OF 'liquidchecklaw06.SortFinds'. -/
def sortFindsUptoCard : Claim7 := { stood := { row := sortFindsUptoRow, standIns := [], harness := (true, "dc67ba6f4d1e2a29fa5d54e86a1dffebb4b965efb32ae6e147663c6e1f3f293d"), looks := false }, kinds := [], alts := [], laidByText := true, laidKinds := [.data], laidTests := true, laidLooks := .later }
def SortFindsUptoCardSaid : Prop := Claim7.holds Tryd.pinned (.plain (OpenSpec.upto sortFindsSpec)) sortFindsUptoCard

/-- THE SECOND FORM's CARD OF 'liquidchecklaw06.SortTypes'. -/
def sortTypesUptoCard : Claim7 := { stood := { row := sortTypesUptoRow, standIns := [], harness := (true, "dc67ba6f4d1e2a29fa5d54e86a1dffebb4b965efb32ae6e147663c6e1f3f293d"), looks := false }, kinds := [], alts := [], laidByText := true, laidKinds := [.data], laidTests := true, laidLooks := .later }
def SortTypesUptoCardSaid : Prop := Claim7.holds Tryd.pinned (.plain (OpenSpec.upto sortTypesSpec)) sortTypesUptoCard

/-- THE SECOND FORM's CARD OF 'liquidchecklaw06.SortWith'. -/
def sortWithUptoCard : Claim7 := { stood := { row := sortWithUptoRow, standIns := [], harness := (true, "dc67ba6f4d1e2a29fa5d54e86a1dffebb4b965efb32ae6e147663c6e1f3f293d"), looks := false }, kinds := [], alts := [], laidByText := true, laidKinds := [.data], laidTests := true, laidLooks := .later }
def SortWithUptoCardSaid : Prop := Claim7.holds Tryd.pinned (.plain (OpenSpec.upto sortWithSpec)) sortWithUptoCard

/-- THE SECOND FORM's CARD OF 'liquidchecklaw06.SortLooks'. -/
def sortLooksUptoCard : Claim7 := { stood := { row := sortLooksUptoRow, standIns := [], harness := (true, "dc67ba6f4d1e2a29fa5d54e86a1dffebb4b965efb32ae6e147663c6e1f3f293d"), looks := false }, kinds := [], alts := [], laidByText := true, laidKinds := [.data], laidTests := true, laidLooks := .later }
def SortLooksUptoCardSaid : Prop := Claim7.holds Tryd.pinned (.plain (OpenSpec.upto sortLooksSpec)) sortLooksUptoCard

/-- THE SECOND FORM's CARD OF 'liquidchecklaw06.SortGrows'. -/
def sortGrowsUptoCard : Claim7 := { stood := { row := sortGrowsUptoRow, standIns := [], harness := (true, "dc67ba6f4d1e2a29fa5d54e86a1dffebb4b965efb32ae6e147663c6e1f3f293d"), looks := false }, kinds := [], alts := [], laidByText := true, laidKinds := [.data], laidTests := true, laidLooks := .later }
def SortGrowsUptoCardSaid : Prop := Claim7.holds Tryd.pinned (.plain (OpenSpec.upto sortGrowsSpec)) sortGrowsUptoCard
end Rows
end Go.Proofs.YthhfdlhbhfkbdaaDoor
