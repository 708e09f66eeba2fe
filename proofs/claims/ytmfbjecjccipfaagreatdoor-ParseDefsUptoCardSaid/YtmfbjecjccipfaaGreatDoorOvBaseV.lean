/- The seat's own facts: what its statements share. No condition. -/
import Derived.Test.YtmfbjecjccipfaaGreatDoorOva
import Derived.Test.YtmfbjecjccipfaaGreatDoorOvb
import Derived.Test.YtmfbjecjccipfaaGreatDoorOvc
import Derived.Test.YtmfbjecjccipfaaGreatDoorOvd
import Derived.Test.YtmfbjecjccipfaaGreatDoorOve
import Derived.Test.YtmfbjecjccipfaaGreatDoorOvf
import Derived.Test.YtmfbjecjccipfaaGreatDoorOvg
import Derived.Test.YtmfbjecjccipfaaGreatDoorOvh
import Derived.Test.YtmfbjecjccipfaaGreatDoorOvi
import Derived.Test.YtmfbjecjccipfaaGreatDoorOvj
import Derived.Test.YtmfbjecjccipfaaGreatDoorOvk
import Derived.Test.YtmfbjecjccipfaaGreatDoorOvl
import Derived.Test.YtmfbjecjccipfaaGreatDoorOvm
import Derived.Test.YtmfbjecjccipfaaGreatDoorOvn
import Derived.Test.YtmfbjecjccipfaaGreatDoorOvo
import Derived.Test.YtmfbjecjccipfaaGreatDoorOvp
import Derived.Test.YtmfbjecjccipfaaGreatDoorRows
import Derived.Test.YtmfbjecjccipfaaGreatDoorCards
import Derived.Test.YtmfbjecjccipfaaGreatDoorTie
import Derived.WalkKit
import Derived.ProofKit
import Derived.OpenShut
import Derived.Deep.DeepHandedRow
import Derived.Deep.DeepWitnessRowRef
import Derived.Lib.LaidTab
set_option linter.unusedVariables false
set_option linter.unusedSimpArgs false
set_option linter.unusedSectionVars false
set_option maxRecDepth 100000
set_option maxHeartbeats 64000000
open Go.Proofs.Tryz
namespace Go.Proofs.YtmfbjecjccipfaaGreatDoor
section
open Go Go.VM Go.ChangeShapes Go.WideShapes Go.ChangeAt Go.RowKit
theorem d9v:G0 1=some (flat (Rows.laid_liquidcheck_names_keywords (H:=Unit))):=by kernel_rfl
theorem f0y:prog.globalNamed "liquidcheck/names.keywords" =some 1:=by kernel_rfl
theorem f0z:(prog.globals[1]?).map (·.type)=some 194:=by kernel_rfl
theorem d9w:G0 0=some (flat (Rows.laid_liquidcheck_lex_signs (H:=Unit))):=by kernel_rfl
theorem f0A:prog.globalNamed "liquidcheck/lex.signs" =some 0:=by kernel_rfl
theorem f0B:(prog.globals[0]?).map (·.type)=some 36:=by kernel_rfl
theorem b9g{W:World}(hL:laidMetH prog Rows.parseDefsRow.laid W):a8U G0 (a0X W.heap.size) (RW W) W:=by
 intro g cs hg;by_cases he1:g=1
 .subst he1;have hr:=c5V (L:=TL) rZ d0Y rfl hL (n:= "liquidcheck/names.keywords") (d:=Rows.laid_liquidcheck_names_keywords) (by simp[Rows.parseDefsRow]) f0y f0z;have e:=d9v;rw[hg]at e;cases e;exact⟨hr.1,λh=>Nat.not_lt.2 h hr.2.1,hr.2.2⟩
 by_cases he0:g=0
 .subst he0;have hr:=c5V (L:=TL) rZ d0Y rfl hL (n:= "liquidcheck/lex.signs") (d:=Rows.laid_liquidcheck_lex_signs) (by simp[Rows.parseDefsRow]) f0A f0B;have e:=d9w;rw[hg]at e;cases e;exact⟨hr.1,λh=>Nat.not_lt.2 h hr.2.1,hr.2.2⟩
 simp[G0,he1,he0]at hg
def dvV:D->Value
 |.int k n=>.int k n
 |.bool b=>.bool b
 |.str s=>.string ⟨s.toArray⟩
 |_=>.slice none 0 0
def f0C:List (List D):=match (flat (Rows.laid_liquidcheck_lex_signs (H:=Unit)))with
 |[.sl es]=>es
 |_=>[]
noncomputable def b3T(os:Os):World:=
 {World.holding prog os ⟨#[],#[],[]⟩with heap:=((((((World.holding prog os ⟨#[],#[],[]⟩).heap.modify 3 (fun
   |.cells _ t frozen=>.cells #[.int .u8 128,.int .u8 191,.int .u8 160,.int .u8 191,.int .u8 128,.int .u8 159,.int .u8 144,.int .u8 191,.int .u8 128,.int .u8 143,.int .u8 0,.int .u8 0,.int .u8 0,.int .u8 0,.int .u8 0,.int .u8 0,.int .u8 0,.int .u8 0,.int .u8 0,.int .u8 0,.int .u8 0,.int .u8 0,.int .u8 0,.int .u8 0,.int .u8 0,.int .u8 0,.int .u8 0,.int .u8 0,.int .u8 0,.int .u8 0,.int .u8 0,.int .u8 0] t frozen
   |o=>o)).modify 1 (fun
   |.cells _ t frozen=>.cells #[.string ⟨#[97,110,100]⟩,.string ⟨#[97,115,115,117,109,101]⟩,.string ⟨#[98,111,111,108]⟩,.string ⟨#[98,111,117,110,100]⟩,.string ⟨#[99,97,115,101]⟩,.string ⟨#[99,101,108,108]⟩,.string ⟨#[99,108,97,115,115]⟩,.string ⟨#[100,97,116,97]⟩,.string ⟨#[100,101,102]⟩,.string ⟨#[100,105,118]⟩,.string ⟨#[101,108,115,101]⟩,.string ⟨#[101,110,100]⟩,.string ⟨#[102,97,108,115,101]⟩,.string ⟨#[102,111,114,97,108,108]⟩,.string ⟨#[102,117,110]⟩,.string ⟨#[103,101,116]⟩,.string ⟨#[105,102]⟩,.string ⟨#[105,110]⟩,.string ⟨#[105,110,115,116]⟩,.string ⟨#[105,110,116]⟩,.string ⟨#[105,110,118,97,114,105,97,110,116]⟩,.string ⟨#[108,101,116]⟩,.string ⟨#[109,97,116,99,104]⟩,.string ⟨#[109,101,97,115,117,114,101]⟩,.string ⟨#[109,101,116,114,105,99]⟩,.string ⟨#[109,111,100]⟩,.string ⟨#[109,117]⟩,.string ⟨#[110,101,119]⟩,.string ⟨#[110,111,116]⟩,.string ⟨#[111,102]⟩,.string ⟨#[111,114]⟩,.string ⟨#[113,117,97,108]⟩,.string ⟨#[114,101,102,108,101,99,116]⟩,.string ⟨#[115,101,116]⟩,.string ⟨#[116,104,101,110]⟩,.string ⟨#[116,114,117,101]⟩,.string ⟨#[117,115,101]⟩,.string ⟨#[118]⟩,.string ⟨#[118,97,108]⟩,.string ⟨#[116,97,103]⟩,.string ⟨#[119,104,101,114,101]⟩,.string ⟨#[119,105,116,104]⟩] t frozen
   |o=>o)).modify 0 (fun
   |.cells _ t frozen=>.cells #[.slice (some ⟨(World.holding prog os ⟨#[],#[],[]⟩).heap.size+0,0,none⟩) f0C.length f0C.length] t frozen
   |o=>o)).modify 2 (fun
   |.cells _ t frozen=>.cells ((flat (Rows.laid_unicode_utf8_first)).map dvV).toArray t frozen
   |o=>o)).push (.cells (f0C.flatten.map dvV).toArray 9 (0,0)))}
end
end Go.Proofs.YtmfbjecjccipfaaGreatDoor
