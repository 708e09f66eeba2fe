/-
  NARROWER THAN 'FOR EVERY INPUT', by the rows' own cells (each row's printed sentence says how): TemplateNews: loops, laid · TemplateScopes: laid · TemplateSigs: loops, laid · TemplatePlain: loops, laid · TemplateHoles: loops, laid · TemplateRight: loops, laid · TemplateFilled: loops, laid.
  DERIVED. THE GIVEN ROWS OF THIS SEAT. 7 by the template 'for every input the law returns true; each argument reads behind the call as it read before'; 0 by the template 'total and deterministic' (their statements: YtmjpdmkgmlhfaaaDoorTotals.lean).
  GIVEN WITH THE SEED: the statements are not yours to turn. If you find one false, say at which input.
  Laid BY PROGRAM, IN A SANDBOX (cutbox-rows.mjs): the forced cells as the released guide's own fill.sh prints them over the translation 45812570493c3732… (all of the seat's roots in one cut). By AI agents, Wed Nov 11 2026. No macro, syntax, notation, axiom, sorry.
-/
import Derived.Test.YtmjpdmkgmlhfaaaDoorChecked
import GoSem.Claim
import GoSem.ClaimJoined
import GoSem.ClaimMapViews
import Derived.JoinedTies
import Derived.KernelRfl
namespace Go.Proofs.YtmjpdmkgmlhfaaaDoor
/- THE CELL 'sum', in the pinned program and in every row, IS THE sha256 OF THE DUMP (.gsa) THAT YtmjpdmkgmlhfaaaDoorProg.lean LOADS. Nothing in Lean hashes anything: it is a label: what it is worth is what the hold of that sum in a sandbox is worth. -/
noncomputable def Tryd.pinned : Pinned := { name := "ytmjpdmkgmlhfaaadoor", sum := "45812570493c37324c13dff66786c6dcfcc09b213b370b06f81cb1bc17b1d59a", checked := Tryd.checked }
namespace Rows
def none {H : Type} : Left H := { results := [], args := [] }

/- WHAT THE LISTED PACKAGE-LEVEL VARIABLES READ AS WHEN THE CALL BEGINS. Each datum BY PROGRAM (the guide's laid-datum.mjs) off the statement by which the dump's own 'gosem.cut.vars' lays the variable. In a bare row this is a premise. The card (YtmjpdmkgmlhfaaaDoorCards.lean) ties it to the program's text. -/
def laid_math_bits_deBruijn32tab {H : Type} : DataW H := .agg [.lit (.int .u8 0), .lit (.int .u8 1), .lit (.int .u8 28), .lit (.int .u8 2), .lit (.int .u8 29), .lit (.int .u8 14), .lit (.int .u8 24), .lit (.int .u8 3), .lit (.int .u8 30), .lit (.int .u8 22), .lit (.int .u8 20), .lit (.int .u8 15), .lit (.int .u8 25), .lit (.int .u8 17), .lit (.int .u8 4), .lit (.int .u8 8), .lit (.int .u8 31), .lit (.int .u8 27), .lit (.int .u8 13), .lit (.int .u8 23), .lit (.int .u8 21), .lit (.int .u8 19), .lit (.int .u8 16), .lit (.int .u8 7), .lit (.int .u8 26), .lit (.int .u8 12), .lit (.int .u8 18), .lit (.int .u8 6), .lit (.int .u8 11), .lit (.int .u8 5), .lit (.int .u8 10), .lit (.int .u8 9)]
def laid_math_bits_deBruijn64tab {H : Type} : DataW H := .agg [.lit (.int .u8 0), .lit (.int .u8 1), .lit (.int .u8 56), .lit (.int .u8 2), .lit (.int .u8 57), .lit (.int .u8 49), .lit (.int .u8 28), .lit (.int .u8 3), .lit (.int .u8 61), .lit (.int .u8 58), .lit (.int .u8 42), .lit (.int .u8 50), .lit (.int .u8 38), .lit (.int .u8 29), .lit (.int .u8 17), .lit (.int .u8 4), .lit (.int .u8 62), .lit (.int .u8 47), .lit (.int .u8 59), .lit (.int .u8 36), .lit (.int .u8 45), .lit (.int .u8 43), .lit (.int .u8 51), .lit (.int .u8 22), .lit (.int .u8 53), .lit (.int .u8 39), .lit (.int .u8 33), .lit (.int .u8 30), .lit (.int .u8 24), .lit (.int .u8 18), .lit (.int .u8 12), .lit (.int .u8 5), .lit (.int .u8 63), .lit (.int .u8 55), .lit (.int .u8 48), .lit (.int .u8 27), .lit (.int .u8 60), .lit (.int .u8 41), .lit (.int .u8 37), .lit (.int .u8 16), .lit (.int .u8 46), .lit (.int .u8 35), .lit (.int .u8 44), .lit (.int .u8 21), .lit (.int .u8 52), .lit (.int .u8 32), .lit (.int .u8 23), .lit (.int .u8 11), .lit (.int .u8 54), .lit (.int .u8 26), .lit (.int .u8 40), .lit (.int .u8 15), .lit (.int .u8 34), .lit (.int .u8 20), .lit (.int .u8 31), .lit (.int .u8 10), .lit (.int .u8 25), .lit (.int .u8 14), .lit (.int .u8 19), .lit (.int .u8 9), .lit (.int .u8 13), .lit (.int .u8 8), .lit (.int .u8 7), .lit (.int .u8 6)]
def laid_internal_strconv_uint64pow10 {H : Type} : DataW H := .agg [.lit (.int .u64 1), .lit (.int .u64 10), .lit (.int .u64 100), .lit (.int .u64 1000), .lit (.int .u64 10000), .lit (.int .u64 100000), .lit (.int .u64 1000000), .lit (.int .u64 10000000), .lit (.int .u64 100000000), .lit (.int .u64 1000000000), .lit (.int .u64 10000000000), .lit (.int .u64 100000000000), .lit (.int .u64 1000000000000), .lit (.int .u64 10000000000000), .lit (.int .u64 100000000000000), .lit (.int .u64 1000000000000000), .lit (.int .u64 10000000000000000), .lit (.int .u64 100000000000000000), .lit (.int .u64 1000000000000000000), .lit (.int .u64 10000000000000000000)]
def laid_liquidcheck_names_keywords {H : Type} : DataW H := .agg [.lit (.string [97, 110, 100]), .lit (.string [97, 115, 115, 117, 109, 101]), .lit (.string [98, 111, 111, 108]), .lit (.string [98, 111, 117, 110, 100]), .lit (.string [99, 97, 115, 101]), .lit (.string [99, 101, 108, 108]), .lit (.string [99, 108, 97, 115, 115]), .lit (.string [100, 97, 116, 97]), .lit (.string [100, 101, 102]), .lit (.string [100, 105, 118]), .lit (.string [101, 108, 115, 101]), .lit (.string [101, 110, 100]), .lit (.string [102, 97, 108, 115, 101]), .lit (.string [102, 111, 114, 97, 108, 108]), .lit (.string [102, 117, 110]), .lit (.string [103, 101, 116]), .lit (.string [105, 102]), .lit (.string [105, 110]), .lit (.string [105, 110, 115, 116]), .lit (.string [105, 110, 116]), .lit (.string [105, 110, 118, 97, 114, 105, 97, 110, 116]), .lit (.string [108, 101, 116]), .lit (.string [109, 97, 116, 99, 104]), .lit (.string [109, 101, 97, 115, 117, 114, 101]), .lit (.string [109, 101, 116, 114, 105, 99]), .lit (.string [109, 111, 100]), .lit (.string [109, 117]), .lit (.string [110, 101, 119]), .lit (.string [110, 111, 116]), .lit (.string [111, 102]), .lit (.string [111, 114]), .lit (.string [113, 117, 97, 108]), .lit (.string [114, 101, 102, 108, 101, 99, 116]), .lit (.string [115, 101, 116]), .lit (.string [116, 104, 101, 110]), .lit (.string [116, 114, 117, 101]), .lit (.string [117, 115, 101]), .lit (.string [118]), .lit (.string [118, 97, 108]), .lit (.string [116, 97, 103]), .lit (.string [119, 104, 101, 114, 101]), .lit (.string [119, 105, 116, 104])]

/-- 'liquidchecklaw37.TemplateNews': WHATEVER THE INPUT: true; the input reads as it did. -/
def templateNewsSpec : ChangeSpec := { name := "templateNews", fn := fun _ => fun
  | [d1, d2, d3] => { results := [.lit (.bool true)], args := [d1, d2, d3] }
  | _ => none }
def templateNewsRow : OpenClaim := { program := "ytmjpdmkgmlhfaaadoor", sum := "45812570493c37324c13dff66786c6dcfcc09b213b370b06f81cb1bc17b1d59a", func := "liquidcheck/liquidchecklaw37.TemplateNews", spec := "templateNews", unfollowed := true, recurses := true, named := ["internal/strconv.uint64pow10", "math/bits.deBruijn32tab", "math/bits.deBruijn64tab", "liquidcheck/names.keywords"], loops := true, apart := false, laid := [("math/bits.deBruijn32tab", laid_math_bits_deBruijn32tab), ("math/bits.deBruijn64tab", laid_math_bits_deBruijn64tab), ("internal/strconv.uint64pow10", laid_internal_strconv_uint64pow10), ("liquidcheck/names.keywords", laid_liquidcheck_names_keywords)] }
def TemplateNewsSaid : Prop := templateNewsRow.holds Tryd.pinned (OpenSpec.ofChange templateNewsSpec)

/-- ITS FALSE NEIGHBOUR: 'it returns false'. Refute it at one input. -/
def templateNewsWrong : ChangeSpec := { name := "templateNews", fn := fun _ => fun
  | [d1, d2, d3] => { results := [.lit (.bool false)], args := [d1, d2, d3] }
  | _ => none }
def TemplateNewsWrongFalsely : Prop := templateNewsRow.holds Tryd.pinned (OpenSpec.ofChange templateNewsWrong)

/-- 'liquidchecklaw37.TemplateScopes': WHATEVER THE INPUT: true; the input reads as it did. -/
def templateScopesSpec : ChangeSpec := { name := "templateScopes", fn := fun _ => fun
  | [d] => { results := [.lit (.bool true)], args := [d] }
  | _ => none }
def templateScopesRow : OpenClaim := { program := "ytmjpdmkgmlhfaaadoor", sum := "45812570493c37324c13dff66786c6dcfcc09b213b370b06f81cb1bc17b1d59a", func := "liquidcheck/liquidchecklaw37.TemplateScopes", spec := "templateScopes", unfollowed := true, recurses := true, named := ["internal/strconv.uint64pow10", "math/bits.deBruijn32tab", "math/bits.deBruijn64tab", "liquidcheck/names.keywords"], apart := false, laid := [("math/bits.deBruijn32tab", laid_math_bits_deBruijn32tab), ("math/bits.deBruijn64tab", laid_math_bits_deBruijn64tab), ("internal/strconv.uint64pow10", laid_internal_strconv_uint64pow10), ("liquidcheck/names.keywords", laid_liquidcheck_names_keywords)] }
def TemplateScopesSaid : Prop := templateScopesRow.holds Tryd.pinned (OpenSpec.ofChange templateScopesSpec)

/-- ITS FALSE NEIGHBOUR: 'it returns false'. Refute it at one input. -/
def templateScopesWrong : ChangeSpec := { name := "templateScopes", fn := fun _ => fun
  | [d] => { results := [.lit (.bool false)], args := [d] }
  | _ => none }
def TemplateScopesWrongFalsely : Prop := templateScopesRow.holds Tryd.pinned (OpenSpec.ofChange templateScopesWrong)

/-- 'liquidchecklaw37.TemplateSigs': WHATEVER THE INPUT: true; the input reads as it did. -/
def templateSigsSpec : ChangeSpec := { name := "templateSigs", fn := fun _ => fun
  | [d1, d2] => { results := [.lit (.bool true)], args := [d1, d2] }
  | _ => none }
def templateSigsRow : OpenClaim := { program := "ytmjpdmkgmlhfaaadoor", sum := "45812570493c37324c13dff66786c6dcfcc09b213b370b06f81cb1bc17b1d59a", func := "liquidcheck/liquidchecklaw37.TemplateSigs", spec := "templateSigs", unfollowed := true, recurses := true, named := ["internal/strconv.uint64pow10", "math/bits.deBruijn32tab", "math/bits.deBruijn64tab", "liquidcheck/names.keywords"], loops := true, apart := false, laid := [("math/bits.deBruijn32tab", laid_math_bits_deBruijn32tab), ("math/bits.deBruijn64tab", laid_math_bits_deBruijn64tab), ("internal/strconv.uint64pow10", laid_internal_strconv_uint64pow10), ("liquidcheck/names.keywords", laid_liquidcheck_names_keywords)] }
def TemplateSigsSaid : Prop := templateSigsRow.holds Tryd.pinned (OpenSpec.ofChange templateSigsSpec)

/-- ITS FALSE NEIGHBOUR: 'it returns false'. Refute it at one input. -/
def templateSigsWrong : ChangeSpec := { name := "templateSigs", fn := fun _ => fun
  | [d1, d2] => { results := [.lit (.bool false)], args := [d1, d2] }
  | _ => none }
def TemplateSigsWrongFalsely : Prop := templateSigsRow.holds Tryd.pinned (OpenSpec.ofChange templateSigsWrong)

/-- 'liquidchecklaw37.TemplatePlain': WHATEVER THE INPUT: true; the input reads as it did. -/
def templatePlainSpec : ChangeSpec := { name := "templatePlain", fn := fun _ => fun
  | [d1, d2, d3] => { results := [.lit (.bool true)], args := [d1, d2, d3] }
  | _ => none }
def templatePlainRow : OpenClaim := { program := "ytmjpdmkgmlhfaaadoor", sum := "45812570493c37324c13dff66786c6dcfcc09b213b370b06f81cb1bc17b1d59a", func := "liquidcheck/liquidchecklaw37.TemplatePlain", spec := "templatePlain", unfollowed := true, recurses := true, named := ["internal/strconv.uint64pow10", "math/bits.deBruijn32tab", "math/bits.deBruijn64tab", "liquidcheck/names.keywords"], loops := true, apart := false, laid := [("math/bits.deBruijn32tab", laid_math_bits_deBruijn32tab), ("math/bits.deBruijn64tab", laid_math_bits_deBruijn64tab), ("internal/strconv.uint64pow10", laid_internal_strconv_uint64pow10), ("liquidcheck/names.keywords", laid_liquidcheck_names_keywords)] }
def TemplatePlainSaid : Prop := templatePlainRow.holds Tryd.pinned (OpenSpec.ofChange templatePlainSpec)

/-- ITS FALSE NEIGHBOUR: 'it returns false'. Refute it at one input. -/
def templatePlainWrong : ChangeSpec := { name := "templatePlain", fn := fun _ => fun
  | [d1, d2, d3] => { results := [.lit (.bool false)], args := [d1, d2, d3] }
  | _ => none }
def TemplatePlainWrongFalsely : Prop := templatePlainRow.holds Tryd.pinned (OpenSpec.ofChange templatePlainWrong)

/-- 'liquidchecklaw37.TemplateHoles': WHATEVER THE INPUT: true; the input reads as it did. -/
def templateHolesSpec : ChangeSpec := { name := "templateHoles", fn := fun _ => fun
  | [d1, d2, d3] => { results := [.lit (.bool true)], args := [d1, d2, d3] }
  | _ => none }
def templateHolesRow : OpenClaim := { program := "ytmjpdmkgmlhfaaadoor", sum := "45812570493c37324c13dff66786c6dcfcc09b213b370b06f81cb1bc17b1d59a", func := "liquidcheck/liquidchecklaw37.TemplateHoles", spec := "templateHoles", unfollowed := true, recurses := true, named := ["internal/strconv.uint64pow10", "math/bits.deBruijn32tab", "math/bits.deBruijn64tab", "liquidcheck/names.keywords"], loops := true, apart := false, laid := [("math/bits.deBruijn32tab", laid_math_bits_deBruijn32tab), ("math/bits.deBruijn64tab", laid_math_bits_deBruijn64tab), ("internal/strconv.uint64pow10", laid_internal_strconv_uint64pow10), ("liquidcheck/names.keywords", laid_liquidcheck_names_keywords)] }
def TemplateHolesSaid : Prop := templateHolesRow.holds Tryd.pinned (OpenSpec.ofChange templateHolesSpec)

/-- ITS FALSE NEIGHBOUR: 'it returns false'. Refute it at one input. -/
def templateHolesWrong : ChangeSpec := { name := "templateHoles", fn := fun _ => fun
  | [d1, d2, d3] => { results := [.lit (.bool false)], args := [d1, d2, d3] }
  | _ => none }
def TemplateHolesWrongFalsely : Prop := templateHolesRow.holds Tryd.pinned (OpenSpec.ofChange templateHolesWrong)

/-- 'liquidchecklaw37.TemplateRight': WHATEVER THE INPUT: true; the input reads as it did. -/
def templateRightSpec : ChangeSpec := { name := "templateRight", fn := fun _ => fun
  | [d1, d2, d3] => { results := [.lit (.bool true)], args := [d1, d2, d3] }
  | _ => none }
def templateRightRow : OpenClaim := { program := "ytmjpdmkgmlhfaaadoor", sum := "45812570493c37324c13dff66786c6dcfcc09b213b370b06f81cb1bc17b1d59a", func := "liquidcheck/liquidchecklaw37.TemplateRight", spec := "templateRight", unfollowed := true, recurses := true, named := ["internal/strconv.uint64pow10", "math/bits.deBruijn32tab", "math/bits.deBruijn64tab", "liquidcheck/names.keywords"], loops := true, apart := false, laid := [("math/bits.deBruijn32tab", laid_math_bits_deBruijn32tab), ("math/bits.deBruijn64tab", laid_math_bits_deBruijn64tab), ("internal/strconv.uint64pow10", laid_internal_strconv_uint64pow10), ("liquidcheck/names.keywords", laid_liquidcheck_names_keywords)] }
def TemplateRightSaid : Prop := templateRightRow.holds Tryd.pinned (OpenSpec.ofChange templateRightSpec)

/-- ITS FALSE NEIGHBOUR: 'it returns false'. Refute it at one input. -/
def templateRightWrong : ChangeSpec := { name := "templateRight", fn := fun _ => fun
  | [d1, d2, d3] => { results := [.lit (.bool false)], args := [d1, d2, d3] }
  | _ => none }
def TemplateRightWrongFalsely : Prop := templateRightRow.holds Tryd.pinned (OpenSpec.ofChange templateRightWrong)

/-- 'liquidchecklaw37.TemplateFilled': WHATEVER THE INPUT: true; the input reads as it did. -/
def templateFilledSpec : ChangeSpec := { name := "templateFilled", fn := fun _ => fun
  | [d1, d2, d3] => { results := [.lit (.bool true)], args := [d1, d2, d3] }
  | _ => none }
def templateFilledRow : OpenClaim := { program := "ytmjpdmkgmlhfaaadoor", sum := "45812570493c37324c13dff66786c6dcfcc09b213b370b06f81cb1bc17b1d59a", func := "liquidcheck/liquidchecklaw37.TemplateFilled", spec := "templateFilled", unfollowed := true, recurses := true, named := ["internal/strconv.uint64pow10", "math/bits.deBruijn32tab", "math/bits.deBruijn64tab", "liquidcheck/names.keywords"], loops := true, apart := false, laid := [("math/bits.deBruijn32tab", laid_math_bits_deBruijn32tab), ("math/bits.deBruijn64tab", laid_math_bits_deBruijn64tab), ("internal/strconv.uint64pow10", laid_internal_strconv_uint64pow10), ("liquidcheck/names.keywords", laid_liquidcheck_names_keywords)] }
def TemplateFilledSaid : Prop := templateFilledRow.holds Tryd.pinned (OpenSpec.ofChange templateFilledSpec)

/-- ITS FALSE NEIGHBOUR: 'it returns false'. Refute it at one input. -/
def templateFilledWrong : ChangeSpec := { name := "templateFilled", fn := fun _ => fun
  | [d1, d2, d3] => { results := [.lit (.bool false)], args := [d1, d2, d3] }
  | _ => none }
def TemplateFilledWrongFalsely : Prop := templateFilledRow.holds Tryd.pinned (OpenSpec.ofChange templateFilledWrong)

/- THE SECOND FORM. 'bulk': how many values and letters a reading holds, each counted each time it is reached (what is shared counts as often as it is met; a slice's spare places count too). A statement '..UptoSaid' is the law's where the arguments, and the package variables that the reading takes, are together of bulk at most 1048576: NARROWER than '..Said'. Prove '..Said' where nothing that the law and all that it calls make is longer than what came in: it says more and counts as full. Else prove '..UptoSaid'. A law counts once. -/
mutual
def uptoBulk {H : Type} : DataW H → Nat
  | .lit (.string bytes) => bytes.length + 1
  | .lit _ => 1
  | .nil => 1
  | .ptr d => uptoBulk d + 1
  | .slice elems spare => uptoBulkAll elems + uptoBulkAll spare + 1
  | .agg parts => uptoBulkAll parts + 1
  | .iface _ d => uptoBulk d + 1
  | .map entries => uptoBulkEntries entries + 1
  | .held _ => 1
def uptoBulkAll {H : Type} : List (DataW H) → Nat
  | [] => 0
  | d :: r => uptoBulk d + uptoBulkAll r
def uptoBulkEntries {H : Type} : List (Lit × DataW H) → Nat
  | [] => 0
  | x :: r => uptoBulkEntry x + uptoBulkEntries r
def uptoBulkEntry {H : Type} : Lit × DataW H → Nat
  | (.string bytes, d) => bytes.length + uptoBulk d + 1
  | (_, d) => uptoBulk d + 1
 end
def uptoSmall : (H : Type) → List (DataW H) → Bool := fun _ ds => decide (uptoBulkAll ds ≤ 1048576)
def OpenSpec.upto (s : _root_.Go.ChangeSpec) : _root_.Go.OpenSpec := { _root_.Go.OpenSpec.ofChange s with cond := some uptoSmall }

/-- 'liquidchecklaw37.TemplateNews', WHERE WHAT IT READS IS OF BULK AT MOST 1048576: true; the input reads as it did. -/
def templateNewsUptoRow : OpenClaim := { program := "ytmjpdmkgmlhfaaadoor", sum := "45812570493c37324c13dff66786c6dcfcc09b213b370b06f81cb1bc17b1d59a", func := "liquidcheck/liquidchecklaw37.TemplateNews", spec := "templateNews", unfollowed := true, recurses := true, named := ["internal/strconv.uint64pow10", "math/bits.deBruijn32tab", "math/bits.deBruijn64tab", "liquidcheck/names.keywords"], loops := true, apart := false, laid := [("math/bits.deBruijn32tab", laid_math_bits_deBruijn32tab), ("math/bits.deBruijn64tab", laid_math_bits_deBruijn64tab), ("internal/strconv.uint64pow10", laid_internal_strconv_uint64pow10), ("liquidcheck/names.keywords", laid_liquidcheck_names_keywords)], narrowed := true }
def TemplateNewsUptoSaid : Prop := templateNewsUptoRow.holds Tryd.pinned (OpenSpec.upto templateNewsSpec)

/-- 'liquidchecklaw37.TemplateScopes', WHERE WHAT IT READS IS OF BULK AT MOST 1048576: true; the input reads as it did. -/
def templateScopesUptoRow : OpenClaim := { program := "ytmjpdmkgmlhfaaadoor", sum := "45812570493c37324c13dff66786c6dcfcc09b213b370b06f81cb1bc17b1d59a", func := "liquidcheck/liquidchecklaw37.TemplateScopes", spec := "templateScopes", unfollowed := true, recurses := true, named := ["internal/strconv.uint64pow10", "math/bits.deBruijn32tab", "math/bits.deBruijn64tab", "liquidcheck/names.keywords"], apart := false, laid := [("math/bits.deBruijn32tab", laid_math_bits_deBruijn32tab), ("math/bits.deBruijn64tab", laid_math_bits_deBruijn64tab), ("internal/strconv.uint64pow10", laid_internal_strconv_uint64pow10), ("liquidcheck/names.keywords", laid_liquidcheck_names_keywords)], narrowed := true }
def TemplateScopesUptoSaid : Prop := templateScopesUptoRow.holds Tryd.pinned (OpenSpec.upto templateScopesSpec)

/-- 'liquidchecklaw37.TemplateSigs', WHERE WHAT IT READS IS OF BULK AT MOST 1048576: true; the input reads as it did. -/
def templateSigsUptoRow : OpenClaim := { program := "ytmjpdmkgmlhfaaadoor", sum := "45812570493c37324c13dff66786c6dcfcc09b213b370b06f81cb1bc17b1d59a", func := "liquidcheck/liquidchecklaw37.TemplateSigs", spec := "templateSigs", unfollowed := true, recurses := true, named := ["internal/strconv.uint64pow10", "math/bits.deBruijn32tab", "math/bits.deBruijn64tab", "liquidcheck/names.keywords"], loops := true, apart := false, laid := [("math/bits.deBruijn32tab", laid_math_bits_deBruijn32tab), ("math/bits.deBruijn64tab", laid_math_bits_deBruijn64tab), ("internal/strconv.uint64pow10", laid_internal_strconv_uint64pow10), ("liquidcheck/names.keywords", laid_liquidcheck_names_keywords)], narrowed := true }
def TemplateSigsUptoSaid : Prop := templateSigsUptoRow.holds Tryd.pinned (OpenSpec.upto templateSigsSpec)

/-- 'liquidchecklaw37.TemplatePlain', WHERE WHAT IT READS IS OF BULK AT MOST 1048576: true; the input reads as it did. -/
def templatePlainUptoRow : OpenClaim := { program := "ytmjpdmkgmlhfaaadoor", sum := "45812570493c37324c13dff66786c6dcfcc09b213b370b06f81cb1bc17b1d59a", func := "liquidcheck/liquidchecklaw37.TemplatePlain", spec := "templatePlain", unfollowed := true, recurses := true, named := ["internal/strconv.uint64pow10", "math/bits.deBruijn32tab", "math/bits.deBruijn64tab", "liquidcheck/names.keywords"], loops := true, apart := false, laid := [("math/bits.deBruijn32tab", laid_math_bits_deBruijn32tab), ("math/bits.deBruijn64tab", laid_math_bits_deBruijn64tab), ("internal/strconv.uint64pow10", laid_internal_strconv_uint64pow10), ("liquidcheck/names.keywords", laid_liquidcheck_names_keywords)], narrowed := true }
def TemplatePlainUptoSaid : Prop := templatePlainUptoRow.holds Tryd.pinned (OpenSpec.upto templatePlainSpec)

/-- 'liquidchecklaw37.TemplateHoles', WHERE WHAT IT READS IS OF BULK AT MOST 1048576: true; the input reads as it did. -/
def templateHolesUptoRow : OpenClaim := { program := "ytmjpdmkgmlhfaaadoor", sum := "45812570493c37324c13dff66786c6dcfcc09b213b370b06f81cb1bc17b1d59a", func := "liquidcheck/liquidchecklaw37.TemplateHoles", spec := "templateHoles", unfollowed := true, recurses := true, named := ["internal/strconv.uint64pow10", "math/bits.deBruijn32tab", "math/bits.deBruijn64tab", "liquidcheck/names.keywords"], loops := true, apart := false, laid := [("math/bits.deBruijn32tab", laid_math_bits_deBruijn32tab), ("math/bits.deBruijn64tab", laid_math_bits_deBruijn64tab), ("internal/strconv.uint64pow10", laid_internal_strconv_uint64pow10), ("liquidcheck/names.keywords", laid_liquidcheck_names_keywords)], narrowed := true }
def TemplateHolesUptoSaid : Prop := templateHolesUptoRow.holds Tryd.pinned (OpenSpec.upto templateHolesSpec)

/-- 'liquidchecklaw37.TemplateRight', WHERE WHAT IT READS IS OF BULK AT MOST 1048576: true; the input reads as it did. -/
def templateRightUptoRow : OpenClaim := { program := "ytmjpdmkgmlhfaaadoor", sum := "45812570493c37324c13dff66786c6dcfcc09b213b370b06f81cb1bc17b1d59a", func := "liquidcheck/liquidchecklaw37.TemplateRight", spec := "templateRight", unfollowed := true, recurses := true, named := ["internal/strconv.uint64pow10", "math/bits.deBruijn32tab", "math/bits.deBruijn64tab", "liquidcheck/names.keywords"], loops := true, apart := false, laid := [("math/bits.deBruijn32tab", laid_math_bits_deBruijn32tab), ("math/bits.deBruijn64tab", laid_math_bits_deBruijn64tab), ("internal/strconv.uint64pow10", laid_internal_strconv_uint64pow10), ("liquidcheck/names.keywords", laid_liquidcheck_names_keywords)], narrowed := true }
def TemplateRightUptoSaid : Prop := templateRightUptoRow.holds Tryd.pinned (OpenSpec.upto templateRightSpec)

/-- 'liquidchecklaw37.TemplateFilled', WHERE WHAT IT READS IS OF BULK AT MOST 1048576: true; the input reads as it did. -/
def templateFilledUptoRow : OpenClaim := { program := "ytmjpdmkgmlhfaaadoor", sum := "45812570493c37324c13dff66786c6dcfcc09b213b370b06f81cb1bc17b1d59a", func := "liquidcheck/liquidchecklaw37.TemplateFilled", spec := "templateFilled", unfollowed := true, recurses := true, named := ["internal/strconv.uint64pow10", "math/bits.deBruijn32tab", "math/bits.deBruijn64tab", "liquidcheck/names.keywords"], loops := true, apart := false, laid := [("math/bits.deBruijn32tab", laid_math_bits_deBruijn32tab), ("math/bits.deBruijn64tab", laid_math_bits_deBruijn64tab), ("internal/strconv.uint64pow10", laid_internal_strconv_uint64pow10), ("liquidcheck/names.keywords", laid_liquidcheck_names_keywords)], narrowed := true }
def TemplateFilledUptoSaid : Prop := templateFilledUptoRow.holds Tryd.pinned (OpenSpec.upto templateFilledSpec)

end Rows
end Go.Proofs.YtmjpdmkgmlhfaaaDoor
