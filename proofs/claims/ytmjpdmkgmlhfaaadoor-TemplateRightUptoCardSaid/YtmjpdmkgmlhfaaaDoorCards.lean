/-
  DERIVED. GIVEN WITH THE SEED: THE CARDS: each row of YtmjpdmkgmlhfaaaDoorRows.lean that lists a variable, with what it lists TIED to the program's text (the seventh form; the later family's looks); each row that meets fmt, with fmt's text TOLD by the authors' own Lean function (tested against real Go, not proved from fmt's source: count such statements apart). THE CARD IS WHAT COUNTS. Prove the row's statement (the work); the ties are given (YtmjpdmkgmlhfaaaDoorTie.lean); close each card by the builder's one call (the guide's Derived/Test/ToyasCard.lean, 'card_holds'). Laid BY PROGRAM, IN A SANDBOX (cutbox-door.mjs). By AI agents, Wed Nov 11 2026. No macro, syntax, notation, axiom, sorry.
-/
import Derived.Test.YtmjpdmkgmlhfaaaDoorRows
import GoSem.ClaimSeven
namespace Go.Proofs.YtmjpdmkgmlhfaaaDoor
namespace Rows

/-- THE TIED CARD OF 'liquidchecklaw37.TemplateNews'. -/
def templateNewsCard : Claim7 := { stood := { row := templateNewsRow, standIns := [], harness := (true, "908f2884f2ea6b3e304916a69ffb3c32977d7d2fcfd88f63503970b08a424460"), looks := false }, kinds := [], alts := [], laidByText := true, laidKinds := [.data, .data, .data, .data], laidTests := true, laidLooks := .later }
def TemplateNewsCardSaid : Prop := Claim7.holds Tryd.pinned (.plain (OpenSpec.ofChange templateNewsSpec)) templateNewsCard

/-- THE TIED CARD OF 'liquidchecklaw37.TemplateScopes'. -/
def templateScopesCard : Claim7 := { stood := { row := templateScopesRow, standIns := [], harness := (true, "908f2884f2ea6b3e304916a69ffb3c32977d7d2fcfd88f63503970b08a424460"), looks := false }, kinds := [], alts := [], laidByText := true, laidKinds := [.data, .data, .data, .data], laidTests := true, laidLooks := .later }
def TemplateScopesCardSaid : Prop := Claim7.holds Tryd.pinned (.plain (OpenSpec.ofChange templateScopesSpec)) templateScopesCard

/-- THE TIED CARD OF 'liquidchecklaw37.TemplateSigs'. -/
def templateSigsCard : Claim7 := { stood := { row := templateSigsRow, standIns := [], harness := (true, "908f2884f2ea6b3e304916a69ffb3c32977d7d2fcfd88f63503970b08a424460"), looks := false }, kinds := [], alts := [], laidByText := true, laidKinds := [.data, .data, .data, .data], laidTests := true, laidLooks := .later }
def TemplateSigsCardSaid : Prop := Claim7.holds Tryd.pinned (.plain (OpenSpec.ofChange templateSigsSpec)) templateSigsCard

/-- THE TIED CARD OF 'liquidchecklaw37.TemplatePlain'. -/
def templatePlainCard : Claim7 := { stood := { row := templatePlainRow, standIns := [], harness := (true, "908f2884f2ea6b3e304916a69ffb3c32977d7d2fcfd88f63503970b08a424460"), looks := false }, kinds := [], alts := [], laidByText := true, laidKinds := [.data, .data, .data, .data], laidTests := true, laidLooks := .later }
def TemplatePlainCardSaid : Prop := Claim7.holds Tryd.pinned (.plain (OpenSpec.ofChange templatePlainSpec)) templatePlainCard

/-- THE TIED CARD OF 'liquidchecklaw37.TemplateHoles'. -/
def templateHolesCard : Claim7 := { stood := { row := templateHolesRow, standIns := [], harness := (true, "908f2884f2ea6b3e304916a69ffb3c32977d7d2fcfd88f63503970b08a424460"), looks := false }, kinds := [], alts := [], laidByText := true, laidKinds := [.data, .data, .data, .data], laidTests := true, laidLooks := .later }
def TemplateHolesCardSaid : Prop := Claim7.holds Tryd.pinned (.plain (OpenSpec.ofChange templateHolesSpec)) templateHolesCard

/-- THE TIED CARD OF 'liquidchecklaw37.TemplateRight'. -/
def templateRightCard : Claim7 := { stood := { row := templateRightRow, standIns := [], harness := (true, "908f2884f2ea6b3e304916a69ffb3c32977d7d2fcfd88f63503970b08a424460"), looks := false }, kinds := [], alts := [], laidByText := true, laidKinds := [.data, .data, .data, .data], laidTests := true, laidLooks := .later }
def TemplateRightCardSaid : Prop := Claim7.holds Tryd.pinned (.plain (OpenSpec.ofChange templateRightSpec)) templateRightCard

/-- THE TIED CARD OF 'liquidchecklaw37.TemplateFilled'. -/
def templateFilledCard : Claim7 := { stood := { row := templateFilledRow, standIns := [], harness := (true, "908f2884f2ea6b3e304916a69ffb3c32977d7d2fcfd88f63503970b08a424460"), looks := false }, kinds := [], alts := [], laidByText := true, laidKinds := [.data, .data, .data, .data], laidTests := true, laidLooks := .later }
def TemplateFilledCardSaid : Prop := Claim7.holds Tryd.pinned (.plain (OpenSpec.ofChange templateFilledSpec)) templateFilledCard

/-- THE SECOND FORM's CARD OF 'liquidchecklaw37.TemplateNews'. -/
def templateNewsUptoCard : Claim7 := { stood := { row := templateNewsUptoRow, standIns := [], harness := (true, "908f2884f2ea6b3e304916a69ffb3c32977d7d2fcfd88f63503970b08a424460"), looks := false }, kinds := [], alts := [], laidByText := true, laidKinds := [.data, .data, .data, .data], laidTests := true, laidLooks := .later }
def TemplateNewsUptoCardSaid : Prop := Claim7.holds Tryd.pinned (.plain (OpenSpec.upto templateNewsSpec)) templateNewsUptoCard

/-- THE SECOND FORM's CARD OF 'liquidchecklaw37.TemplateScopes'. -/
def templateScopesUptoCard : Claim7 := { stood := { row := templateScopesUptoRow, standIns := [], harness := (true, "908f2884f2ea6b3e304916a69ffb3c32977d7d2fcfd88f63503970b08a424460"), looks := false }, kinds := [], alts := [], laidByText := true, laidKinds := [.data, .data, .data, .data], laidTests := true, laidLooks := .later }
def TemplateScopesUptoCardSaid : Prop := Claim7.holds Tryd.pinned (.plain (OpenSpec.upto templateScopesSpec)) templateScopesUptoCard

/-- THE SECOND FORM's CARD OF 'liquidchecklaw37.TemplateSigs'. -/
def templateSigsUptoCard : Claim7 := { stood := { row := templateSigsUptoRow, standIns := [], harness := (true, "908f2884f2ea6b3e304916a69ffb3c32977d7d2fcfd88f63503970b08a424460"), looks := false }, kinds := [], alts := [], laidByText := true, laidKinds := [.data, .data, .data, .data], laidTests := true, laidLooks := .later }
def TemplateSigsUptoCardSaid : Prop := Claim7.holds Tryd.pinned (.plain (OpenSpec.upto templateSigsSpec)) templateSigsUptoCard

/-- THE SECOND FORM's CARD OF 'liquidchecklaw37.TemplatePlain'. -/
def templatePlainUptoCard : Claim7 := { stood := { row := templatePlainUptoRow, standIns := [], harness := (true, "908f2884f2ea6b3e304916a69ffb3c32977d7d2fcfd88f63503970b08a424460"), looks := false }, kinds := [], alts := [], laidByText := true, laidKinds := [.data, .data, .data, .data], laidTests := true, laidLooks := .later }
def TemplatePlainUptoCardSaid : Prop := Claim7.holds Tryd.pinned (.plain (OpenSpec.upto templatePlainSpec)) templatePlainUptoCard

/-- THE SECOND FORM's CARD OF 'liquidchecklaw37.TemplateHoles'. -/
def templateHolesUptoCard : Claim7 := { stood := { row := templateHolesUptoRow, standIns := [], harness := (true, "908f2884f2ea6b3e304916a69ffb3c32977d7d2fcfd88f63503970b08a424460"), looks := false }, kinds := [], alts := [], laidByText := true, laidKinds := [.data, .data, .data, .data], laidTests := true, laidLooks := .later }
def TemplateHolesUptoCardSaid : Prop := Claim7.holds Tryd.pinned (.plain (OpenSpec.upto templateHolesSpec)) templateHolesUptoCard

/-- THE SECOND FORM's CARD OF 'liquidchecklaw37.TemplateRight'. -/
def templateRightUptoCard : Claim7 := { stood := { row := templateRightUptoRow, standIns := [], harness := (true, "908f2884f2ea6b3e304916a69ffb3c32977d7d2fcfd88f63503970b08a424460"), looks := false }, kinds := [], alts := [], laidByText := true, laidKinds := [.data, .data, .data, .data], laidTests := true, laidLooks := .later }
def TemplateRightUptoCardSaid : Prop := Claim7.holds Tryd.pinned (.plain (OpenSpec.upto templateRightSpec)) templateRightUptoCard

/-- THE SECOND FORM's CARD OF 'liquidchecklaw37.TemplateFilled'. -/
def templateFilledUptoCard : Claim7 := { stood := { row := templateFilledUptoRow, standIns := [], harness := (true, "908f2884f2ea6b3e304916a69ffb3c32977d7d2fcfd88f63503970b08a424460"), looks := false }, kinds := [], alts := [], laidByText := true, laidKinds := [.data, .data, .data, .data], laidTests := true, laidLooks := .later }
def TemplateFilledUptoCardSaid : Prop := Claim7.holds Tryd.pinned (.plain (OpenSpec.upto templateFilledSpec)) templateFilledUptoCard
end Rows
end Go.Proofs.YtmjpdmkgmlhfaaaDoor
