/-
  NARROWER THAN 'FOR EVERY INPUT', by the rows' own cells (each row's printed sentence says how): ParseModules: laid · ParseDefs: laid.
  DERIVED. THE GIVEN ROWS OF THIS SEAT. 2 by the template 'for every input the law returns true; each argument reads behind the call as it read before'; 0 by the template 'total and deterministic' (their statements: YtmfbjecjccipfaaGreatDoorTotals.lean).
  GIVEN WITH THE SEED: the statements are not yours to turn. If you find one false, say at which input.
  Laid BY PROGRAM, IN A SANDBOX (cutbox-rows.mjs): the forced cells as the released guide's own fill.sh prints them over the translation 6e773f8ab3576d64… (all of the seat's roots in one cut). By AI agents, Wed Nov 11 2026. No macro, syntax, notation, axiom, sorry.
-/
import Derived.Test.YtmfbjecjccipfaaGreatDoorChecked
import GoSem.PinnedTables
import GoSem.Claim
import GoSem.ClaimJoined
import GoSem.ClaimMapViews
import Derived.JoinedTies
import Derived.KernelRfl
namespace Go.Proofs.YtmfbjecjccipfaaGreatDoor
/- THE CELL 'sum', in the pinned program and in every row, IS THE sha256 OF THE DUMP (.gsa) THAT YtmfbjecjccipfaaGreatDoorProg.lean LOADS. Nothing in Lean hashes anything: it is a label: what it is worth is what the hold of that sum in a sandbox is worth. -/
noncomputable def Tryz.pinned : Pinned := { name := "ytmfbjecjccipfaagreatdoor", sum := "6e773f8ab3576d64d5321de32415dc84a6097830fadb71eedd6dbfc576042f4a", checked := Tryz.checked }
namespace Rows
def none {H : Type} : Left H := { results := [], args := [] }

/- WHAT THE LISTED PACKAGE-LEVEL VARIABLES READ AS WHEN THE CALL BEGINS. Each datum BY PROGRAM (the guide's laid-datum.mjs) off the statement by which the dump's own 'gosem.cut.vars' lays the variable. In a bare row this is a premise. The card (YtmfbjecjccipfaaGreatDoorCards.lean) ties it to the program's text. -/
def laid_unicode_utf8_acceptRanges {H : Type} : DataW H := .agg [.agg [.lit (.int .u8 128), .lit (.int .u8 191)], .agg [.lit (.int .u8 160), .lit (.int .u8 191)], .agg [.lit (.int .u8 128), .lit (.int .u8 159)], .agg [.lit (.int .u8 144), .lit (.int .u8 191)], .agg [.lit (.int .u8 128), .lit (.int .u8 143)], .agg [.lit (.int .u8 0), .lit (.int .u8 0)], .agg [.lit (.int .u8 0), .lit (.int .u8 0)], .agg [.lit (.int .u8 0), .lit (.int .u8 0)], .agg [.lit (.int .u8 0), .lit (.int .u8 0)], .agg [.lit (.int .u8 0), .lit (.int .u8 0)], .agg [.lit (.int .u8 0), .lit (.int .u8 0)], .agg [.lit (.int .u8 0), .lit (.int .u8 0)], .agg [.lit (.int .u8 0), .lit (.int .u8 0)], .agg [.lit (.int .u8 0), .lit (.int .u8 0)], .agg [.lit (.int .u8 0), .lit (.int .u8 0)], .agg [.lit (.int .u8 0), .lit (.int .u8 0)]]
def laid_liquidcheck_names_keywords {H : Type} : DataW H := .agg [.lit (.string [97, 110, 100]), .lit (.string [97, 115, 115, 117, 109, 101]), .lit (.string [98, 111, 111, 108]), .lit (.string [98, 111, 117, 110, 100]), .lit (.string [99, 97, 115, 101]), .lit (.string [99, 101, 108, 108]), .lit (.string [99, 108, 97, 115, 115]), .lit (.string [100, 97, 116, 97]), .lit (.string [100, 101, 102]), .lit (.string [100, 105, 118]), .lit (.string [101, 108, 115, 101]), .lit (.string [101, 110, 100]), .lit (.string [102, 97, 108, 115, 101]), .lit (.string [102, 111, 114, 97, 108, 108]), .lit (.string [102, 117, 110]), .lit (.string [103, 101, 116]), .lit (.string [105, 102]), .lit (.string [105, 110]), .lit (.string [105, 110, 115, 116]), .lit (.string [105, 110, 116]), .lit (.string [105, 110, 118, 97, 114, 105, 97, 110, 116]), .lit (.string [108, 101, 116]), .lit (.string [109, 97, 116, 99, 104]), .lit (.string [109, 101, 97, 115, 117, 114, 101]), .lit (.string [109, 101, 116, 114, 105, 99]), .lit (.string [109, 111, 100]), .lit (.string [109, 117]), .lit (.string [110, 101, 119]), .lit (.string [110, 111, 116]), .lit (.string [111, 102]), .lit (.string [111, 114]), .lit (.string [113, 117, 97, 108]), .lit (.string [114, 101, 102, 108, 101, 99, 116]), .lit (.string [115, 101, 116]), .lit (.string [116, 104, 101, 110]), .lit (.string [116, 114, 117, 101]), .lit (.string [117, 115, 101]), .lit (.string [118]), .lit (.string [118, 97, 108]), .lit (.string [116, 97, 103]), .lit (.string [119, 104, 101, 114, 101]), .lit (.string [119, 105, 116, 104])]
def laid_liquidcheck_lex_signs {H : Type} : DataW H := .slice [.lit (.string [60, 61, 62]), .lit (.string [45, 62]), .lit (.string [61, 62]), .lit (.string [60, 61]), .lit (.string [62, 61]), .lit (.string [33, 61]), .lit (.string [61, 61]), .lit (.string [38, 38]), .lit (.string [124, 124]), .lit (.string [43]), .lit (.string [45]), .lit (.string [42]), .lit (.string [47]), .lit (.string [37]), .lit (.string [40]), .lit (.string [41]), .lit (.string [123]), .lit (.string [125]), .lit (.string [91]), .lit (.string [93]), .lit (.string [60]), .lit (.string [62]), .lit (.string [61]), .lit (.string [124]), .lit (.string [44]), .lit (.string [58]), .lit (.string [59]), .lit (.string [46]), .lit (.string [33]), .lit (.string [63]), .lit (.string [39])] []
/-- One of Go's own tables, pinned by name: the form's constant. -/
def laid_unicode_utf8_first : DataW Unit := Go.Pinned.utf8First

/-- 'liquidchecklaw21.ParseModules': WHATEVER THE INPUT: true; the input reads as it did. -/
def parseModulesSpec : ChangeSpec := { name := "parseModules", fn := fun _ => fun
  | [d] => { results := [.lit (.bool true)], args := [d] }
  | _ => none }
def parseModulesRow : OpenClaim := { program := "ytmfbjecjccipfaagreatdoor", sum := "6e773f8ab3576d64d5321de32415dc84a6097830fadb71eedd6dbfc576042f4a", func := "liquidcheck/liquidchecklaw21.ParseModules", spec := "parseModules", inPlace := ["internal/abi.NoEscape", "internal/bytealg.MakeNoZero", "internal/bytealg.IndexByteString", "internal/bytealg.IndexString"], unfollowed := true, recurses := true, named := ["liquidcheck/names.keywords", "liquidcheck/lex.signs", "unicode/utf8.first", "unicode/utf8.acceptRanges", "internal/bytealg.MaxLen"], apart := false, laid := [("unicode/utf8.acceptRanges", laid_unicode_utf8_acceptRanges), ("liquidcheck/names.keywords", laid_liquidcheck_names_keywords), ("liquidcheck/lex.signs", laid_liquidcheck_lex_signs), ("unicode/utf8.first", laid_unicode_utf8_first)] }
def ParseModulesSaid : Prop := parseModulesRow.holds Tryz.pinned (OpenSpec.ofChange parseModulesSpec)

/-- ITS FALSE NEIGHBOUR: 'it returns false'. Refute it at one input. -/
def parseModulesWrong : ChangeSpec := { name := "parseModules", fn := fun _ => fun
  | [d] => { results := [.lit (.bool false)], args := [d] }
  | _ => none }
def ParseModulesWrongFalsely : Prop := parseModulesRow.holds Tryz.pinned (OpenSpec.ofChange parseModulesWrong)

/-- 'liquidchecklaw21.ParseDefs': WHATEVER THE INPUT: true; the input reads as it did. -/
def parseDefsSpec : ChangeSpec := { name := "parseDefs", fn := fun _ => fun
  | [d] => { results := [.lit (.bool true)], args := [d] }
  | _ => none }
def parseDefsRow : OpenClaim := { program := "ytmfbjecjccipfaagreatdoor", sum := "6e773f8ab3576d64d5321de32415dc84a6097830fadb71eedd6dbfc576042f4a", func := "liquidcheck/liquidchecklaw21.ParseDefs", spec := "parseDefs", inPlace := ["internal/abi.NoEscape", "internal/bytealg.MakeNoZero", "internal/bytealg.IndexByteString", "internal/bytealg.IndexString"], unfollowed := true, recurses := true, named := ["liquidcheck/names.keywords", "liquidcheck/lex.signs", "unicode/utf8.first", "unicode/utf8.acceptRanges", "internal/bytealg.MaxLen"], apart := false, laid := [("unicode/utf8.acceptRanges", laid_unicode_utf8_acceptRanges), ("liquidcheck/names.keywords", laid_liquidcheck_names_keywords), ("liquidcheck/lex.signs", laid_liquidcheck_lex_signs), ("unicode/utf8.first", laid_unicode_utf8_first)] }
def ParseDefsSaid : Prop := parseDefsRow.holds Tryz.pinned (OpenSpec.ofChange parseDefsSpec)

/-- ITS FALSE NEIGHBOUR: 'it returns false'. Refute it at one input. -/
def parseDefsWrong : ChangeSpec := { name := "parseDefs", fn := fun _ => fun
  | [d] => { results := [.lit (.bool false)], args := [d] }
  | _ => none }
def ParseDefsWrongFalsely : Prop := parseDefsRow.holds Tryz.pinned (OpenSpec.ofChange parseDefsWrong)

/- THE SECOND FORM. 'bulk': how many values and letters a reading holds, each counted each time it is reached (what is shared counts as often as it is met; a slice's spare places count too). A statement '..UptoSaid' is the law's where the arguments, and the package variables that the reading takes, are together of bulk at most 1048576: NARROWER than '..Said'. Prove '..Said' where nothing that the law and all that it calls make is longer than what came in: it says more and counts as full. Else prove '..UptoSaid'. A law counts once. -/
mutual
def uptoBulk {H : Type} : DataW H → Nat
  | .lit (.string bytes) => bytes.length + 1
  | .lit _ => 1
  | .nil => 1
  | .ptr d => uptoBulk d + 1
  | .slice elems spare => uptoBulkAll elems + uptoBulkAll spare + 1
  | .agg parts => uptoBulkAll parts + 1
  | .iface _ d => uptoBulk d + 1
  | .map entries => uptoBulkEntries entries + 1
  | .held _ => 1
def uptoBulkAll {H : Type} : List (DataW H) → Nat
  | [] => 0
  | d :: r => uptoBulk d + uptoBulkAll r
def uptoBulkEntries {H : Type} : List (Lit × DataW H) → Nat
  | [] => 0
  | x :: r => uptoBulkEntry x + uptoBulkEntries r
def uptoBulkEntry {H : Type} : Lit × DataW H → Nat
  | (.string bytes, d) => bytes.length + uptoBulk d + 1
  | (_, d) => uptoBulk d + 1
 end
def uptoSmall : (H : Type) → List (DataW H) → Bool := fun _ ds => decide (uptoBulkAll ds ≤ 1048576)
def OpenSpec.upto (s : _root_.Go.ChangeSpec) : _root_.Go.OpenSpec := { _root_.Go.OpenSpec.ofChange s with cond := some uptoSmall }

/-- 'liquidchecklaw21.ParseModules', WHERE WHAT IT READS IS OF BULK AT MOST 1048576: true; the input reads as it did. -/
def parseModulesUptoRow : OpenClaim := { program := "ytmfbjecjccipfaagreatdoor", sum := "6e773f8ab3576d64d5321de32415dc84a6097830fadb71eedd6dbfc576042f4a", func := "liquidcheck/liquidchecklaw21.ParseModules", spec := "parseModules", inPlace := ["internal/abi.NoEscape", "internal/bytealg.MakeNoZero", "internal/bytealg.IndexByteString", "internal/bytealg.IndexString"], unfollowed := true, recurses := true, named := ["liquidcheck/names.keywords", "liquidcheck/lex.signs", "unicode/utf8.first", "unicode/utf8.acceptRanges", "internal/bytealg.MaxLen"], apart := false, laid := [("unicode/utf8.acceptRanges", laid_unicode_utf8_acceptRanges), ("liquidcheck/names.keywords", laid_liquidcheck_names_keywords), ("liquidcheck/lex.signs", laid_liquidcheck_lex_signs), ("unicode/utf8.first", laid_unicode_utf8_first)], narrowed := true }
def ParseModulesUptoSaid : Prop := parseModulesUptoRow.holds Tryz.pinned (OpenSpec.upto parseModulesSpec)

/-- 'liquidchecklaw21.ParseDefs', WHERE WHAT IT READS IS OF BULK AT MOST 1048576: true; the input reads as it did. -/
def parseDefsUptoRow : OpenClaim := { program := "ytmfbjecjccipfaagreatdoor", sum := "6e773f8ab3576d64d5321de32415dc84a6097830fadb71eedd6dbfc576042f4a", func := "liquidcheck/liquidchecklaw21.ParseDefs", spec := "parseDefs", inPlace := ["internal/abi.NoEscape", "internal/bytealg.MakeNoZero", "internal/bytealg.IndexByteString", "internal/bytealg.IndexString"], unfollowed := true, recurses := true, named := ["liquidcheck/names.keywords", "liquidcheck/lex.signs", "unicode/utf8.first", "unicode/utf8.acceptRanges", "internal/bytealg.MaxLen"], apart := false, laid := [("unicode/utf8.acceptRanges", laid_unicode_utf8_acceptRanges), ("liquidcheck/names.keywords", laid_liquidcheck_names_keywords), ("liquidcheck/lex.signs", laid_liquidcheck_lex_signs), ("unicode/utf8.first", laid_unicode_utf8_first)], narrowed := true }
def ParseDefsUptoSaid : Prop := parseDefsUptoRow.holds Tryz.pinned (OpenSpec.upto parseDefsSpec)

end Rows
end Go.Proofs.YtmfbjecjccipfaaGreatDoor
