/- The statement 'ParseDefs' of the package liquidchecklaw21, where what it reads is of bulk at most 1048576: for every input the law answers true and leaves its arguments as they were. Its row lists the package-level variables that its road reads, tied to the program's text. No further condition. -/
import Derived.Test.YtmfbjecjccipfaaGreatDoorOvBaseV
set_option linter.unusedVariables false
set_option linter.unusedSimpArgs false
set_option linter.unusedSectionVars false
set_option maxRecDepth 100000
set_option maxHeartbeats 64000000
open Go.Proofs.Tryz
namespace Go.Proofs.YtmfbjecjccipfaaGreatDoor.parseDefs
open Go Go.VM Go.ChangeShapes Go.WideShapes Go.ChangeAt Go.RowKit
abbrev ARGS:Array Value:=#[Value.string ⟨#[]⟩]
theorem d9x(H:Type)(enc:TypeId×Value->H)(W:World)(base:Nat)(args:Array Value)(ds gs:List (DataW H))(before:List MemPlace)(a2Q:∀(j:Nat) t v,f4.params[j]? =some t->args[j]? =some v->Value.okWide prog W .any base t v)(hW:DataW.Whole enc prog f4.params.toList Rows.parseDefsSpec.vars false W args.toList ds gs before)(hL:laidMetH prog Rows.parseDefsRow.laid W)(hk:Rows.uptoSmall H (ds++gs)=true):
  Calls prog 4 args W λe W'=>∃v,e=.returned v/\Rows.parseDefsSpec.post enc prog f4 false true false false W args v W':=
 b6P rZ hmr hsf d0Y (ts:=[9]) (by rw[params4]) (by decide) rfl rfl (by kernel_rfl:prog.underlying 4=some .bool)
  (λds h=>match ds,h with|[_],_=>rfl) parseDefs_all a2Q hW (b9g hL) hk
theorem d9y(os:Os):laidMetH prog Rows.parseDefsRow.laid ((b3T os).forCall (λ_ _=>0) ⟨#[],ARGS,[]⟩).memory:=
 c5U (by rfl) (laidMet_of_run' 8 (by kernel_rfl) (by kernel_rfl))
theorem reads(os:Os){H:Type}(enc:TypeId×Value->H):∃ds places,DataW.whole enc prog ((b3T os).forCall (λ_ _=>0) ⟨#[],ARGS,[]⟩).memory f4.params.toList Rows.parseDefsSpec.vars false ARGS.toList 8=some (ds,[],places)/\Rows.uptoSmall H (ds++[])=true:=
 ⟨[.lit (.string [])],[],by kernel_rfl,by kernel_rfl⟩
theorem lifted(os:Os)(started:os.Started)(H:Type)(enc:TypeId×Value->H)(F:Stop.Interp):
  ReturnsInHanded {} checked os 4 .any ((Rows.OpenSpec.upto Rows.parseDefsSpec).preRow enc prog f4 Rows.parseDefsUptoRow.domain false Rows.parseDefsUptoRow.laid) (((Rows.OpenSpec.upto Rows.parseDefsSpec).at F).post enc prog f4 false true false false):=by
 obtain⟨ds0,places,hx,hk0⟩:=reads os enc;refine returnsInHanded_of_row (C:=checked) (s:=(Rows.OpenSpec.upto Rows.parseDefsSpec)) oG started (by kernel_rfl) func4
  (witness_row_atRef (enc:=enc) (C:=checked) false (b3T os) ARGS rfl (by kernel_rfl) (by kernel_rfl) (by kernel_rfl)
   (OpenSpec.preRow_of_cond 8 hx (by kernel_rfl) (λk hk=>by cases hk;exact hk0) (by kernel_rfl) (d9y os))) ?_
 intro W base args ds gs before a2Q hW _ d5H _ hL _ _;exact d9x H enc W base args ds gs before a2Q hW hL (d5H _ rfl)
theorem closed:joinedFacts prog 4 f4 (Rows.OpenSpec.upto Rows.parseDefsSpec).bare Rows.parseDefsUptoRow=true:=by unfold joinedFacts;simp only[g2Z];refine⟨⟨⟨⟨⟨⟨⟨⟨⟨⟨⟨⟨⟨⟨⟨⟨⟨⟨⟨⟨⟨⟨⟨⟨⟨⟨⟨⟨⟨⟨⟨?_,?_⟩,?_⟩,?_⟩,?_⟩,?_⟩,?_⟩,?_⟩,?_⟩,?_⟩,?_⟩,?_⟩,?_⟩,?_⟩,?_⟩,?_⟩,?_⟩,?_⟩,?_⟩,?_⟩,?_⟩,?_⟩,?_⟩,?_⟩,?_⟩,?_⟩,?_⟩,?_⟩,?_⟩,?_⟩,?_⟩,?_⟩<;>as_aux_lemma=>kernel_rfl
theorem said:Rows.ParseDefsUptoSaid:=
 OpenClaim.holds_of_cond 4 f4 rfl rfl rfl rfl rfl rfl rfl ⟨rfl,rfl,rfl,rfl,rfl⟩ rfl rfl rfl rfl rfl (by kernel_rfl) func4 closed
  (of_decide_eq_true (by kernel_rfl)) (by unfold Func.isWrapper;first|(rw[if_pos (by decide+kernel)];kernel_rfl)|(rw[if_neg (by decide+kernel)];exact⟨rfl,rfl⟩))
  (λos started H enc _ F=>by rw[OpenClaim.pre_eq_preRow];exact lifted os started H enc F)
theorem plain(f:FuncId)(fn:Func)(hf:Tryz.pinned.checked.prog.funcNamed "liquidcheck/liquidchecklaw21.ParseDefs" =some f) (hfn:Tryz.pinned.checked.prog.funcs[f]? =some fn):
  true=Tryz.pinned.checked.prog.looks []/\∀(j:Nat) t,fn.params[j]? =some t->Tryz.pinned.checked.prog.wantsStandIn t=false:=by
 obtain rfl:f=4:=Option.some.inj ((show prog.funcNamed "liquidcheck/liquidchecklaw21.ParseDefs" =some 4 by kernel_rfl).symm.trans hf) |>.symm;obtain rfl:fn=f4:=(Option.some.inj (func4.symm.trans hfn)).symm;refine⟨by kernel_rfl,λj t ht=>?_⟩;rw[params4]at ht;have hm:t∈[9]:=by simpa using Array.mem_of_getElem? ht
 have eS:([9].all λt=> !prog.wantsStandIn t)=true:=by kernel_rfl
 have hw:=g3c.1 eS t hm;have hw':prog.wantsStandIn t=false:=by simpa using hw
 exact hw'
theorem card:Rows.ParseDefsUptoCardSaid:=
 Claim7.holds_tied_plain_at .later [] _ _ _ _ said (λ_ h=>by cases h) (by kernel_rfl) (λ_ h=>by cases h) parseDefsUpto_row_tie rfl ⟨rfl,rfl⟩ (by kernel_rfl) rfl plain (by kernel_rfl)
#print axioms card
end Go.Proofs.YtmfbjecjccipfaaGreatDoor.parseDefs
