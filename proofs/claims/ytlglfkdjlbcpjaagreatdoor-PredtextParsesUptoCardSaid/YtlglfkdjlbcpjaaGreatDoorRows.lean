/-
  NARROWER THAN 'FOR EVERY INPUT', by the rows' own cells (each row's printed sentence says how): PredtextTexts: loops, laid · PredtextForms: laid · PredtextParses: laid · PredtextReads: laid · PredtextRoundTrip: loops, laid · PredtextParentheses: laid.
  DERIVED. THE GIVEN ROWS OF THIS SEAT. 6 by the template 'for every input the law returns true; each argument reads behind the call as it read before'; 0 by the template 'total and deterministic' (their statements: YtlglfkdjlbcpjaaGreatDoorTotals.lean).
  GIVEN WITH THE SEED: the statements are not yours to turn. If you find one false, say at which input.
  Laid BY PROGRAM, IN A SANDBOX (cutbox-rows.mjs): the forced cells as the released guide's own fill.sh prints them over the translation 0004d70b5438395e… (all of the seat's roots in one cut). By AI agents, Wed Nov 11 2026. No macro, syntax, notation, axiom, sorry.
-/
import Derived.Test.YtlglfkdjlbcpjaaGreatDoorChecked
import GoSem.PinnedTables
import GoSem.Claim
import GoSem.ClaimJoined
import GoSem.ClaimMapViews
import Derived.JoinedTies
import Derived.KernelRfl
namespace Go.Proofs.YtlglfkdjlbcpjaaGreatDoor
/- THE CELL 'sum', in the pinned program and in every row, IS THE sha256 OF THE DUMP (.gsa) THAT YtlglfkdjlbcpjaaGreatDoorProg.lean LOADS. Nothing in Lean hashes anything: it is a label: what it is worth is what the hold of that sum in a sandbox is worth. -/
noncomputable def Tryz.pinned : Pinned := { name := "ytlglfkdjlbcpjaagreatdoor", sum := "0004d70b5438395ea5f094edc06440232fa5d9220100ca00873ee49cdc445853", checked := Tryz.checked }
namespace Rows
def none {H : Type} : Left H := { results := [], args := [] }

/- WHAT THE LISTED PACKAGE-LEVEL VARIABLES READ AS WHEN THE CALL BEGINS. Each datum BY PROGRAM (the guide's laid-datum.mjs) off the statement by which the dump's own 'gosem.cut.vars' lays the variable. In a bare row this is a premise. The card (YtlglfkdjlbcpjaaGreatDoorCards.lean) ties it to the program's text. -/
def laid_math_bits_deBruijn32tab {H : Type} : DataW H := .agg [.lit (.int .u8 0), .lit (.int .u8 1), .lit (.int .u8 28), .lit (.int .u8 2), .lit (.int .u8 29), .lit (.int .u8 14), .lit (.int .u8 24), .lit (.int .u8 3), .lit (.int .u8 30), .lit (.int .u8 22), .lit (.int .u8 20), .lit (.int .u8 15), .lit (.int .u8 25), .lit (.int .u8 17), .lit (.int .u8 4), .lit (.int .u8 8), .lit (.int .u8 31), .lit (.int .u8 27), .lit (.int .u8 13), .lit (.int .u8 23), .lit (.int .u8 21), .lit (.int .u8 19), .lit (.int .u8 16), .lit (.int .u8 7), .lit (.int .u8 26), .lit (.int .u8 12), .lit (.int .u8 18), .lit (.int .u8 6), .lit (.int .u8 11), .lit (.int .u8 5), .lit (.int .u8 10), .lit (.int .u8 9)]
def laid_math_bits_deBruijn64tab {H : Type} : DataW H := .agg [.lit (.int .u8 0), .lit (.int .u8 1), .lit (.int .u8 56), .lit (.int .u8 2), .lit (.int .u8 57), .lit (.int .u8 49), .lit (.int .u8 28), .lit (.int .u8 3), .lit (.int .u8 61), .lit (.int .u8 58), .lit (.int .u8 42), .lit (.int .u8 50), .lit (.int .u8 38), .lit (.int .u8 29), .lit (.int .u8 17), .lit (.int .u8 4), .lit (.int .u8 62), .lit (.int .u8 47), .lit (.int .u8 59), .lit (.int .u8 36), .lit (.int .u8 45), .lit (.int .u8 43), .lit (.int .u8 51), .lit (.int .u8 22), .lit (.int .u8 53), .lit (.int .u8 39), .lit (.int .u8 33), .lit (.int .u8 30), .lit (.int .u8 24), .lit (.int .u8 18), .lit (.int .u8 12), .lit (.int .u8 5), .lit (.int .u8 63), .lit (.int .u8 55), .lit (.int .u8 48), .lit (.int .u8 27), .lit (.int .u8 60), .lit (.int .u8 41), .lit (.int .u8 37), .lit (.int .u8 16), .lit (.int .u8 46), .lit (.int .u8 35), .lit (.int .u8 44), .lit (.int .u8 21), .lit (.int .u8 52), .lit (.int .u8 32), .lit (.int .u8 23), .lit (.int .u8 11), .lit (.int .u8 54), .lit (.int .u8 26), .lit (.int .u8 40), .lit (.int .u8 15), .lit (.int .u8 34), .lit (.int .u8 20), .lit (.int .u8 31), .lit (.int .u8 10), .lit (.int .u8 25), .lit (.int .u8 14), .lit (.int .u8 19), .lit (.int .u8 9), .lit (.int .u8 13), .lit (.int .u8 8), .lit (.int .u8 7), .lit (.int .u8 6)]
def laid_internal_strconv_uint64pow10 {H : Type} : DataW H := .agg [.lit (.int .u64 1), .lit (.int .u64 10), .lit (.int .u64 100), .lit (.int .u64 1000), .lit (.int .u64 10000), .lit (.int .u64 100000), .lit (.int .u64 1000000), .lit (.int .u64 10000000), .lit (.int .u64 100000000), .lit (.int .u64 1000000000), .lit (.int .u64 10000000000), .lit (.int .u64 100000000000), .lit (.int .u64 1000000000000), .lit (.int .u64 10000000000000), .lit (.int .u64 100000000000000), .lit (.int .u64 1000000000000000), .lit (.int .u64 10000000000000000), .lit (.int .u64 100000000000000000), .lit (.int .u64 1000000000000000000), .lit (.int .u64 10000000000000000000)]
def laid_unicode_utf8_acceptRanges {H : Type} : DataW H := .agg [.agg [.lit (.int .u8 128), .lit (.int .u8 191)], .agg [.lit (.int .u8 160), .lit (.int .u8 191)], .agg [.lit (.int .u8 128), .lit (.int .u8 159)], .agg [.lit (.int .u8 144), .lit (.int .u8 191)], .agg [.lit (.int .u8 128), .lit (.int .u8 143)], .agg [.lit (.int .u8 0), .lit (.int .u8 0)], .agg [.lit (.int .u8 0), .lit (.int .u8 0)], .agg [.lit (.int .u8 0), .lit (.int .u8 0)], .agg [.lit (.int .u8 0), .lit (.int .u8 0)], .agg [.lit (.int .u8 0), .lit (.int .u8 0)], .agg [.lit (.int .u8 0), .lit (.int .u8 0)], .agg [.lit (.int .u8 0), .lit (.int .u8 0)], .agg [.lit (.int .u8 0), .lit (.int .u8 0)], .agg [.lit (.int .u8 0), .lit (.int .u8 0)], .agg [.lit (.int .u8 0), .lit (.int .u8 0)], .agg [.lit (.int .u8 0), .lit (.int .u8 0)]]
def laid_liquidcheck_names_keywords {H : Type} : DataW H := .agg [.lit (.string [97, 110, 100]), .lit (.string [97, 115, 115, 117, 109, 101]), .lit (.string [98, 111, 111, 108]), .lit (.string [98, 111, 117, 110, 100]), .lit (.string [99, 97, 115, 101]), .lit (.string [99, 101, 108, 108]), .lit (.string [99, 108, 97, 115, 115]), .lit (.string [100, 97, 116, 97]), .lit (.string [100, 101, 102]), .lit (.string [100, 105, 118]), .lit (.string [101, 108, 115, 101]), .lit (.string [101, 110, 100]), .lit (.string [102, 97, 108, 115, 101]), .lit (.string [102, 111, 114, 97, 108, 108]), .lit (.string [102, 117, 110]), .lit (.string [103, 101, 116]), .lit (.string [105, 102]), .lit (.string [105, 110]), .lit (.string [105, 110, 115, 116]), .lit (.string [105, 110, 116]), .lit (.string [105, 110, 118, 97, 114, 105, 97, 110, 116]), .lit (.string [108, 101, 116]), .lit (.string [109, 97, 116, 99, 104]), .lit (.string [109, 101, 97, 115, 117, 114, 101]), .lit (.string [109, 101, 116, 114, 105, 99]), .lit (.string [109, 111, 100]), .lit (.string [109, 117]), .lit (.string [110, 101, 119]), .lit (.string [110, 111, 116]), .lit (.string [111, 102]), .lit (.string [111, 114]), .lit (.string [113, 117, 97, 108]), .lit (.string [114, 101, 102, 108, 101, 99, 116]), .lit (.string [115, 101, 116]), .lit (.string [116, 104, 101, 110]), .lit (.string [116, 114, 117, 101]), .lit (.string [117, 115, 101]), .lit (.string [118]), .lit (.string [118, 97, 108]), .lit (.string [116, 97, 103]), .lit (.string [119, 104, 101, 114, 101]), .lit (.string [119, 105, 116, 104])]
def laid_liquidcheck_lex_signs {H : Type} : DataW H := .slice [.lit (.string [60, 61, 62]), .lit (.string [45, 62]), .lit (.string [61, 62]), .lit (.string [60, 61]), .lit (.string [62, 61]), .lit (.string [33, 61]), .lit (.string [61, 61]), .lit (.string [38, 38]), .lit (.string [124, 124]), .lit (.string [43]), .lit (.string [45]), .lit (.string [42]), .lit (.string [47]), .lit (.string [37]), .lit (.string [40]), .lit (.string [41]), .lit (.string [123]), .lit (.string [125]), .lit (.string [91]), .lit (.string [93]), .lit (.string [60]), .lit (.string [62]), .lit (.string [61]), .lit (.string [124]), .lit (.string [44]), .lit (.string [58]), .lit (.string [59]), .lit (.string [46]), .lit (.string [33]), .lit (.string [63]), .lit (.string [39])] []
/-- One of Go's own tables, pinned by name: the form's constant. -/
def laid_unicode_utf8_first : DataW Unit := Go.Pinned.utf8First

/-- 'liquidchecklaw08.PredtextTexts': WHATEVER THE INPUT: true; the input reads as it did. -/
def predtextTextsSpec : ChangeSpec := { name := "predtextTexts", fn := fun _ => fun
  | [d] => { results := [.lit (.bool true)], args := [d] }
  | _ => none }
def predtextTextsRow : OpenClaim := { program := "ytlglfkdjlbcpjaagreatdoor", sum := "0004d70b5438395ea5f094edc06440232fa5d9220100ca00873ee49cdc445853", func := "liquidcheck/liquidchecklaw08.PredtextTexts", spec := "predtextTexts", inPlace := ["internal/abi.NoEscape", "internal/bytealg.MakeNoZero", "internal/bytealg.IndexByteString", "internal/bytealg.IndexString"], unfollowed := true, recurses := true, named := ["liquidcheck/names.keywords", "internal/strconv.uint64pow10", "math/bits.deBruijn32tab", "math/bits.deBruijn64tab", "liquidcheck/lex.signs", "unicode/utf8.first", "unicode/utf8.acceptRanges", "internal/bytealg.MaxLen"], loops := true, apart := false, laid := [("math/bits.deBruijn32tab", laid_math_bits_deBruijn32tab), ("math/bits.deBruijn64tab", laid_math_bits_deBruijn64tab), ("internal/strconv.uint64pow10", laid_internal_strconv_uint64pow10), ("unicode/utf8.acceptRanges", laid_unicode_utf8_acceptRanges), ("liquidcheck/names.keywords", laid_liquidcheck_names_keywords), ("liquidcheck/lex.signs", laid_liquidcheck_lex_signs), ("unicode/utf8.first", laid_unicode_utf8_first)] }
def PredtextTextsSaid : Prop := predtextTextsRow.holds Tryz.pinned (OpenSpec.ofChange predtextTextsSpec)

/-- ITS FALSE NEIGHBOUR: 'it returns false'. Refute it at one input. -/
def predtextTextsWrong : ChangeSpec := { name := "predtextTexts", fn := fun _ => fun
  | [d] => { results := [.lit (.bool false)], args := [d] }
  | _ => none }
def PredtextTextsWrongFalsely : Prop := predtextTextsRow.holds Tryz.pinned (OpenSpec.ofChange predtextTextsWrong)

/-- 'liquidchecklaw08.PredtextForms': WHATEVER THE INPUT: true; the input reads as it did. -/
def predtextFormsSpec : ChangeSpec := { name := "predtextForms", fn := fun _ => fun
  | [d] => { results := [.lit (.bool true)], args := [d] }
  | _ => none }
def predtextFormsRow : OpenClaim := { program := "ytlglfkdjlbcpjaagreatdoor", sum := "0004d70b5438395ea5f094edc06440232fa5d9220100ca00873ee49cdc445853", func := "liquidcheck/liquidchecklaw08.PredtextForms", spec := "predtextForms", inPlace := ["internal/abi.NoEscape", "internal/bytealg.MakeNoZero", "internal/bytealg.IndexByteString", "internal/bytealg.IndexString"], unfollowed := true, recurses := true, named := ["liquidcheck/names.keywords", "internal/strconv.uint64pow10", "math/bits.deBruijn32tab", "math/bits.deBruijn64tab", "liquidcheck/lex.signs", "unicode/utf8.first", "unicode/utf8.acceptRanges", "internal/bytealg.MaxLen"], apart := false, laid := [("math/bits.deBruijn32tab", laid_math_bits_deBruijn32tab), ("math/bits.deBruijn64tab", laid_math_bits_deBruijn64tab), ("internal/strconv.uint64pow10", laid_internal_strconv_uint64pow10), ("unicode/utf8.acceptRanges", laid_unicode_utf8_acceptRanges), ("liquidcheck/names.keywords", laid_liquidcheck_names_keywords), ("liquidcheck/lex.signs", laid_liquidcheck_lex_signs), ("unicode/utf8.first", laid_unicode_utf8_first)] }
def PredtextFormsSaid : Prop := predtextFormsRow.holds Tryz.pinned (OpenSpec.ofChange predtextFormsSpec)

/-- ITS FALSE NEIGHBOUR: 'it returns false'. Refute it at one input. -/
def predtextFormsWrong : ChangeSpec := { name := "predtextForms", fn := fun _ => fun
  | [d] => { results := [.lit (.bool false)], args := [d] }
  | _ => none }
def PredtextFormsWrongFalsely : Prop := predtextFormsRow.holds Tryz.pinned (OpenSpec.ofChange predtextFormsWrong)

/-- 'liquidchecklaw08.PredtextParses': WHATEVER THE INPUT: true; the input reads as it did. -/
def predtextParsesSpec : ChangeSpec := { name := "predtextParses", fn := fun _ => fun
  | [d] => { results := [.lit (.bool true)], args := [d] }
  | _ => none }
def predtextParsesRow : OpenClaim := { program := "ytlglfkdjlbcpjaagreatdoor", sum := "0004d70b5438395ea5f094edc06440232fa5d9220100ca00873ee49cdc445853", func := "liquidcheck/liquidchecklaw08.PredtextParses", spec := "predtextParses", inPlace := ["internal/abi.NoEscape", "internal/bytealg.MakeNoZero", "internal/bytealg.IndexByteString", "internal/bytealg.IndexString"], unfollowed := true, recurses := true, named := ["liquidcheck/names.keywords", "internal/strconv.uint64pow10", "math/bits.deBruijn32tab", "math/bits.deBruijn64tab", "liquidcheck/lex.signs", "unicode/utf8.first", "unicode/utf8.acceptRanges", "internal/bytealg.MaxLen"], apart := false, laid := [("math/bits.deBruijn32tab", laid_math_bits_deBruijn32tab), ("math/bits.deBruijn64tab", laid_math_bits_deBruijn64tab), ("internal/strconv.uint64pow10", laid_internal_strconv_uint64pow10), ("unicode/utf8.acceptRanges", laid_unicode_utf8_acceptRanges), ("liquidcheck/names.keywords", laid_liquidcheck_names_keywords), ("liquidcheck/lex.signs", laid_liquidcheck_lex_signs), ("unicode/utf8.first", laid_unicode_utf8_first)] }
def PredtextParsesSaid : Prop := predtextParsesRow.holds Tryz.pinned (OpenSpec.ofChange predtextParsesSpec)

/-- ITS FALSE NEIGHBOUR: 'it returns false'. Refute it at one input. -/
def predtextParsesWrong : ChangeSpec := { name := "predtextParses", fn := fun _ => fun
  | [d] => { results := [.lit (.bool false)], args := [d] }
  | _ => none }
def PredtextParsesWrongFalsely : Prop := predtextParsesRow.holds Tryz.pinned (OpenSpec.ofChange predtextParsesWrong)

/-- 'liquidchecklaw08.PredtextReads': WHATEVER THE INPUT: true; the input reads as it did. -/
def predtextReadsSpec : ChangeSpec := { name := "predtextReads", fn := fun _ => fun
  | [d] => { results := [.lit (.bool true)], args := [d] }
  | _ => none }
def predtextReadsRow : OpenClaim := { program := "ytlglfkdjlbcpjaagreatdoor", sum := "0004d70b5438395ea5f094edc06440232fa5d9220100ca00873ee49cdc445853", func := "liquidcheck/liquidchecklaw08.PredtextReads", spec := "predtextReads", inPlace := ["internal/abi.NoEscape", "internal/bytealg.MakeNoZero", "internal/bytealg.IndexByteString", "internal/bytealg.IndexString"], unfollowed := true, recurses := true, named := ["liquidcheck/names.keywords", "internal/strconv.uint64pow10", "math/bits.deBruijn32tab", "math/bits.deBruijn64tab", "liquidcheck/lex.signs", "unicode/utf8.first", "unicode/utf8.acceptRanges", "internal/bytealg.MaxLen"], apart := false, laid := [("math/bits.deBruijn32tab", laid_math_bits_deBruijn32tab), ("math/bits.deBruijn64tab", laid_math_bits_deBruijn64tab), ("internal/strconv.uint64pow10", laid_internal_strconv_uint64pow10), ("unicode/utf8.acceptRanges", laid_unicode_utf8_acceptRanges), ("liquidcheck/names.keywords", laid_liquidcheck_names_keywords), ("liquidcheck/lex.signs", laid_liquidcheck_lex_signs), ("unicode/utf8.first", laid_unicode_utf8_first)] }
def PredtextReadsSaid : Prop := predtextReadsRow.holds Tryz.pinned (OpenSpec.ofChange predtextReadsSpec)

/-- ITS FALSE NEIGHBOUR: 'it returns false'. Refute it at one input. -/
def predtextReadsWrong : ChangeSpec := { name := "predtextReads", fn := fun _ => fun
  | [d] => { results := [.lit (.bool false)], args := [d] }
  | _ => none }
def PredtextReadsWrongFalsely : Prop := predtextReadsRow.holds Tryz.pinned (OpenSpec.ofChange predtextReadsWrong)

/-- 'liquidchecklaw08.PredtextRoundTrip': WHATEVER THE INPUT: true; the input reads as it did. -/
def predtextRoundTripSpec : ChangeSpec := { name := "predtextRoundTrip", fn := fun _ => fun
  | [d] => { results := [.lit (.bool true)], args := [d] }
  | _ => none }
def predtextRoundTripRow : OpenClaim := { program := "ytlglfkdjlbcpjaagreatdoor", sum := "0004d70b5438395ea5f094edc06440232fa5d9220100ca00873ee49cdc445853", func := "liquidcheck/liquidchecklaw08.PredtextRoundTrip", spec := "predtextRoundTrip", inPlace := ["internal/abi.NoEscape", "internal/bytealg.MakeNoZero", "internal/bytealg.IndexByteString", "internal/bytealg.IndexString"], unfollowed := true, recurses := true, named := ["liquidcheck/names.keywords", "internal/strconv.uint64pow10", "math/bits.deBruijn32tab", "math/bits.deBruijn64tab", "liquidcheck/lex.signs", "unicode/utf8.first", "unicode/utf8.acceptRanges", "internal/bytealg.MaxLen"], loops := true, apart := false, laid := [("math/bits.deBruijn32tab", laid_math_bits_deBruijn32tab), ("math/bits.deBruijn64tab", laid_math_bits_deBruijn64tab), ("internal/strconv.uint64pow10", laid_internal_strconv_uint64pow10), ("unicode/utf8.acceptRanges", laid_unicode_utf8_acceptRanges), ("liquidcheck/names.keywords", laid_liquidcheck_names_keywords), ("liquidcheck/lex.signs", laid_liquidcheck_lex_signs), ("unicode/utf8.first", laid_unicode_utf8_first)] }
def PredtextRoundTripSaid : Prop := predtextRoundTripRow.holds Tryz.pinned (OpenSpec.ofChange predtextRoundTripSpec)

/-- ITS FALSE NEIGHBOUR: 'it returns false'. Refute it at one input. -/
def predtextRoundTripWrong : ChangeSpec := { name := "predtextRoundTrip", fn := fun _ => fun
  | [d] => { results := [.lit (.bool false)], args := [d] }
  | _ => none }
def PredtextRoundTripWrongFalsely : Prop := predtextRoundTripRow.holds Tryz.pinned (OpenSpec.ofChange predtextRoundTripWrong)

/-- 'liquidchecklaw08.PredtextParentheses': WHATEVER THE INPUT: true; the input reads as it did. -/
def predtextParenthesesSpec : ChangeSpec := { name := "predtextParentheses", fn := fun _ => fun
  | [d] => { results := [.lit (.bool true)], args := [d] }
  | _ => none }
def predtextParenthesesRow : OpenClaim := { program := "ytlglfkdjlbcpjaagreatdoor", sum := "0004d70b5438395ea5f094edc06440232fa5d9220100ca00873ee49cdc445853", func := "liquidcheck/liquidchecklaw08.PredtextParentheses", spec := "predtextParentheses", inPlace := ["internal/abi.NoEscape", "internal/bytealg.MakeNoZero", "internal/bytealg.IndexByteString", "internal/bytealg.IndexString"], unfollowed := true, recurses := true, named := ["liquidcheck/names.keywords", "internal/strconv.uint64pow10", "math/bits.deBruijn32tab", "math/bits.deBruijn64tab", "liquidcheck/lex.signs", "unicode/utf8.first", "unicode/utf8.acceptRanges", "internal/bytealg.MaxLen"], apart := false, laid := [("math/bits.deBruijn32tab", laid_math_bits_deBruijn32tab), ("math/bits.deBruijn64tab", laid_math_bits_deBruijn64tab), ("internal/strconv.uint64pow10", laid_internal_strconv_uint64pow10), ("unicode/utf8.acceptRanges", laid_unicode_utf8_acceptRanges), ("liquidcheck/names.keywords", laid_liquidcheck_names_keywords), ("liquidcheck/lex.signs", laid_liquidcheck_lex_signs), ("unicode/utf8.first", laid_unicode_utf8_first)] }
def PredtextParenthesesSaid : Prop := predtextParenthesesRow.holds Tryz.pinned (OpenSpec.ofChange predtextParenthesesSpec)

/-- ITS FALSE NEIGHBOUR: 'it returns false'. Refute it at one input. -/
def predtextParenthesesWrong : ChangeSpec := { name := "predtextParentheses", fn := fun _ => fun
  | [d] => { results := [.lit (.bool false)], args := [d] }
  | _ => none }
def PredtextParenthesesWrongFalsely : Prop := predtextParenthesesRow.holds Tryz.pinned (OpenSpec.ofChange predtextParenthesesWrong)

/- THE SECOND FORM. 'bulk': how many values and letters a reading holds, each counted each time it is reached (what is shared counts as often as it is met; a slice's spare places count too). A statement '..UptoSaid' is the law's where the arguments, and the package variables that the reading takes, are together of bulk at most 1048576: NARROWER than '..Said'. Prove '..Said' where nothing that the law and all that it calls make is longer than what came in: it says more and counts as full. Else prove '..UptoSaid'. A law counts once. -/
mutual
def uptoBulk {H : Type} : DataW H → Nat
  | .lit (.string bytes) => bytes.length + 1
  | .lit _ => 1
  | .nil => 1
  | .ptr d => uptoBulk d + 1
  | .slice elems spare => uptoBulkAll elems + uptoBulkAll spare + 1
  | .agg parts => uptoBulkAll parts + 1
  | .iface _ d => uptoBulk d + 1
  | .map entries => uptoBulkEntries entries + 1
  | .held _ => 1
def uptoBulkAll {H : Type} : List (DataW H) → Nat
  | [] => 0
  | d :: r => uptoBulk d + uptoBulkAll r
def uptoBulkEntries {H : Type} : List (Lit × DataW H) → Nat
  | [] => 0
  | x :: r => uptoBulkEntry x + uptoBulkEntries r
def uptoBulkEntry {H : Type} : Lit × DataW H → Nat
  | (.string bytes, d) => bytes.length + uptoBulk d + 1
  | (_, d) => uptoBulk d + 1
 end
def uptoSmall : (H : Type) → List (DataW H) → Bool := fun _ ds => decide (uptoBulkAll ds ≤ 1048576)
def OpenSpec.upto (s : _root_.Go.ChangeSpec) : _root_.Go.OpenSpec := { _root_.Go.OpenSpec.ofChange s with cond := some uptoSmall }

/-- 'liquidchecklaw08.PredtextTexts', WHERE WHAT IT READS IS OF BULK AT MOST 1048576: true; the input reads as it did. -/
def predtextTextsUptoRow : OpenClaim := { program := "ytlglfkdjlbcpjaagreatdoor", sum := "0004d70b5438395ea5f094edc06440232fa5d9220100ca00873ee49cdc445853", func := "liquidcheck/liquidchecklaw08.PredtextTexts", spec := "predtextTexts", inPlace := ["internal/abi.NoEscape", "internal/bytealg.MakeNoZero", "internal/bytealg.IndexByteString", "internal/bytealg.IndexString"], unfollowed := true, recurses := true, named := ["liquidcheck/names.keywords", "internal/strconv.uint64pow10", "math/bits.deBruijn32tab", "math/bits.deBruijn64tab", "liquidcheck/lex.signs", "unicode/utf8.first", "unicode/utf8.acceptRanges", "internal/bytealg.MaxLen"], loops := true, apart := false, laid := [("math/bits.deBruijn32tab", laid_math_bits_deBruijn32tab), ("math/bits.deBruijn64tab", laid_math_bits_deBruijn64tab), ("internal/strconv.uint64pow10", laid_internal_strconv_uint64pow10), ("unicode/utf8.acceptRanges", laid_unicode_utf8_acceptRanges), ("liquidcheck/names.keywords", laid_liquidcheck_names_keywords), ("liquidcheck/lex.signs", laid_liquidcheck_lex_signs), ("unicode/utf8.first", laid_unicode_utf8_first)], narrowed := true }
def PredtextTextsUptoSaid : Prop := predtextTextsUptoRow.holds Tryz.pinned (OpenSpec.upto predtextTextsSpec)

/-- 'liquidchecklaw08.PredtextForms', WHERE WHAT IT READS IS OF BULK AT MOST 1048576: true; the input reads as it did. -/
def predtextFormsUptoRow : OpenClaim := { program := "ytlglfkdjlbcpjaagreatdoor", sum := "0004d70b5438395ea5f094edc06440232fa5d9220100ca00873ee49cdc445853", func := "liquidcheck/liquidchecklaw08.PredtextForms", spec := "predtextForms", inPlace := ["internal/abi.NoEscape", "internal/bytealg.MakeNoZero", "internal/bytealg.IndexByteString", "internal/bytealg.IndexString"], unfollowed := true, recurses := true, named := ["liquidcheck/names.keywords", "internal/strconv.uint64pow10", "math/bits.deBruijn32tab", "math/bits.deBruijn64tab", "liquidcheck/lex.signs", "unicode/utf8.first", "unicode/utf8.acceptRanges", "internal/bytealg.MaxLen"], apart := false, laid := [("math/bits.deBruijn32tab", laid_math_bits_deBruijn32tab), ("math/bits.deBruijn64tab", laid_math_bits_deBruijn64tab), ("internal/strconv.uint64pow10", laid_internal_strconv_uint64pow10), ("unicode/utf8.acceptRanges", laid_unicode_utf8_acceptRanges), ("liquidcheck/names.keywords", laid_liquidcheck_names_keywords), ("liquidcheck/lex.signs", laid_liquidcheck_lex_signs), ("unicode/utf8.first", laid_unicode_utf8_first)], narrowed := true }
def PredtextFormsUptoSaid : Prop := predtextFormsUptoRow.holds Tryz.pinned (OpenSpec.upto predtextFormsSpec)

/-- 'liquidchecklaw08.PredtextParses', WHERE WHAT IT READS IS OF BULK AT MOST 1048576: true; the input reads as it did. -/
def predtextParsesUptoRow : OpenClaim := { program := "ytlglfkdjlbcpjaagreatdoor", sum := "0004d70b5438395ea5f094edc06440232fa5d9220100ca00873ee49cdc445853", func := "liquidcheck/liquidchecklaw08.PredtextParses", spec := "predtextParses", inPlace := ["internal/abi.NoEscape", "internal/bytealg.MakeNoZero", "internal/bytealg.IndexByteString", "internal/bytealg.IndexString"], unfollowed := true, recurses := true, named := ["liquidcheck/names.keywords", "internal/strconv.uint64pow10", "math/bits.deBruijn32tab", "math/bits.deBruijn64tab", "liquidcheck/lex.signs", "unicode/utf8.first", "unicode/utf8.acceptRanges", "internal/bytealg.MaxLen"], apart := false, laid := [("math/bits.deBruijn32tab", laid_math_bits_deBruijn32tab), ("math/bits.deBruijn64tab", laid_math_bits_deBruijn64tab), ("internal/strconv.uint64pow10", laid_internal_strconv_uint64pow10), ("unicode/utf8.acceptRanges", laid_unicode_utf8_acceptRanges), ("liquidcheck/names.keywords", laid_liquidcheck_names_keywords), ("liquidcheck/lex.signs", laid_liquidcheck_lex_signs), ("unicode/utf8.first", laid_unicode_utf8_first)], narrowed := true }
def PredtextParsesUptoSaid : Prop := predtextParsesUptoRow.holds Tryz.pinned (OpenSpec.upto predtextParsesSpec)

/-- 'liquidchecklaw08.PredtextReads', WHERE WHAT IT READS IS OF BULK AT MOST 1048576: true; the input reads as it did. -/
def predtextReadsUptoRow : OpenClaim := { program := "ytlglfkdjlbcpjaagreatdoor", sum := "0004d70b5438395ea5f094edc06440232fa5d9220100ca00873ee49cdc445853", func := "liquidcheck/liquidchecklaw08.PredtextReads", spec := "predtextReads", inPlace := ["internal/abi.NoEscape", "internal/bytealg.MakeNoZero", "internal/bytealg.IndexByteString", "internal/bytealg.IndexString"], unfollowed := true, recurses := true, named := ["liquidcheck/names.keywords", "internal/strconv.uint64pow10", "math/bits.deBruijn32tab", "math/bits.deBruijn64tab", "liquidcheck/lex.signs", "unicode/utf8.first", "unicode/utf8.acceptRanges", "internal/bytealg.MaxLen"], apart := false, laid := [("math/bits.deBruijn32tab", laid_math_bits_deBruijn32tab), ("math/bits.deBruijn64tab", laid_math_bits_deBruijn64tab), ("internal/strconv.uint64pow10", laid_internal_strconv_uint64pow10), ("unicode/utf8.acceptRanges", laid_unicode_utf8_acceptRanges), ("liquidcheck/names.keywords", laid_liquidcheck_names_keywords), ("liquidcheck/lex.signs", laid_liquidcheck_lex_signs), ("unicode/utf8.first", laid_unicode_utf8_first)], narrowed := true }
def PredtextReadsUptoSaid : Prop := predtextReadsUptoRow.holds Tryz.pinned (OpenSpec.upto predtextReadsSpec)

/-- 'liquidchecklaw08.PredtextRoundTrip', WHERE WHAT IT READS IS OF BULK AT MOST 1048576: true; the input reads as it did. -/
def predtextRoundTripUptoRow : OpenClaim := { program := "ytlglfkdjlbcpjaagreatdoor", sum := "0004d70b5438395ea5f094edc06440232fa5d9220100ca00873ee49cdc445853", func := "liquidcheck/liquidchecklaw08.PredtextRoundTrip", spec := "predtextRoundTrip", inPlace := ["internal/abi.NoEscape", "internal/bytealg.MakeNoZero", "internal/bytealg.IndexByteString", "internal/bytealg.IndexString"], unfollowed := true, recurses := true, named := ["liquidcheck/names.keywords", "internal/strconv.uint64pow10", "math/bits.deBruijn32tab", "math/bits.deBruijn64tab", "liquidcheck/lex.signs", "unicode/utf8.first", "unicode/utf8.acceptRanges", "internal/bytealg.MaxLen"], loops := true, apart := false, laid := [("math/bits.deBruijn32tab", laid_math_bits_deBruijn32tab), ("math/bits.deBruijn64tab", laid_math_bits_deBruijn64tab), ("internal/strconv.uint64pow10", laid_internal_strconv_uint64pow10), ("unicode/utf8.acceptRanges", laid_unicode_utf8_acceptRanges), ("liquidcheck/names.keywords", laid_liquidcheck_names_keywords), ("liquidcheck/lex.signs", laid_liquidcheck_lex_signs), ("unicode/utf8.first", laid_unicode_utf8_first)], narrowed := true }
def PredtextRoundTripUptoSaid : Prop := predtextRoundTripUptoRow.holds Tryz.pinned (OpenSpec.upto predtextRoundTripSpec)

/-- 'liquidchecklaw08.PredtextParentheses', WHERE WHAT IT READS IS OF BULK AT MOST 1048576: true; the input reads as it did. -/
def predtextParenthesesUptoRow : OpenClaim := { program := "ytlglfkdjlbcpjaagreatdoor", sum := "0004d70b5438395ea5f094edc06440232fa5d9220100ca00873ee49cdc445853", func := "liquidcheck/liquidchecklaw08.PredtextParentheses", spec := "predtextParentheses", inPlace := ["internal/abi.NoEscape", "internal/bytealg.MakeNoZero", "internal/bytealg.IndexByteString", "internal/bytealg.IndexString"], unfollowed := true, recurses := true, named := ["liquidcheck/names.keywords", "internal/strconv.uint64pow10", "math/bits.deBruijn32tab", "math/bits.deBruijn64tab", "liquidcheck/lex.signs", "unicode/utf8.first", "unicode/utf8.acceptRanges", "internal/bytealg.MaxLen"], apart := false, laid := [("math/bits.deBruijn32tab", laid_math_bits_deBruijn32tab), ("math/bits.deBruijn64tab", laid_math_bits_deBruijn64tab), ("internal/strconv.uint64pow10", laid_internal_strconv_uint64pow10), ("unicode/utf8.acceptRanges", laid_unicode_utf8_acceptRanges), ("liquidcheck/names.keywords", laid_liquidcheck_names_keywords), ("liquidcheck/lex.signs", laid_liquidcheck_lex_signs), ("unicode/utf8.first", laid_unicode_utf8_first)], narrowed := true }
def PredtextParenthesesUptoSaid : Prop := predtextParenthesesUptoRow.holds Tryz.pinned (OpenSpec.upto predtextParenthesesSpec)

end Rows
end Go.Proofs.YtlglfkdjlbcpjaaGreatDoor
