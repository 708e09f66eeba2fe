/-
  DERIVED. GIVEN WITH THE SEED: THE CARDS: each row of YtcmpodbjhoeblaaDoorRows.lean that lists a variable, with what it lists TIED to the program's text (the seventh form; the later family's looks); each row that meets fmt, with fmt's text TOLD by the authors' own Lean function (tested against real Go, not proved from fmt's source: count such statements apart). THE CARD IS WHAT COUNTS. Prove the row's statement (the work); the ties are given (YtcmpodbjhoeblaaDoorTie.lean); close each card by the builder's one call (the guide's Derived/Test/ToyasCard.lean, 'card_holds'). Laid BY PROGRAM, IN A SANDBOX (cutbox-door.mjs). By AI agents, Wed Nov 11 2026. No macro, syntax, notation, axiom, sorry.
-/
import Derived.Test.YtcmpodbjhoeblaaDoorRows
import GoSem.ClaimSeven
namespace Go.Proofs.YtcmpodbjhoeblaaDoor
namespace Rows

/-- THE TIED CARD OF 'liquidchecklaw19.TypesUnifies'. -/
def typesUnifiesCard : Claim7 := { stood := { row := typesUnifiesRow, standIns := [], harness := (true, "4ce00969f126100e3e287c362f2c8bc78dc6144fd6ba95e919d2936c62192e62"), looks := false }, kinds := [], alts := [], laidByText := true, laidKinds := [.data, .data, .data, .data], laidTests := true, laidLooks := .later }
def TypesUnifiesCardSaid : Prop := Claim7.holds Tryd.pinned (.plain (OpenSpec.ofChange typesUnifiesSpec)) typesUnifiesCard

/-- THE SECOND FORM's CARD OF 'liquidchecklaw19.TypesUnifies'. -/
def typesUnifiesUptoCard : Claim7 := { stood := { row := typesUnifiesUptoRow, standIns := [], harness := (true, "4ce00969f126100e3e287c362f2c8bc78dc6144fd6ba95e919d2936c62192e62"), looks := false }, kinds := [], alts := [], laidByText := true, laidKinds := [.data, .data, .data, .data], laidTests := true, laidLooks := .later }
def TypesUnifiesUptoCardSaid : Prop := Claim7.holds Tryd.pinned (.plain (OpenSpec.upto typesUnifiesSpec)) typesUnifiesUptoCard
end Rows
end Go.Proofs.YtcmpodbjhoeblaaDoor
