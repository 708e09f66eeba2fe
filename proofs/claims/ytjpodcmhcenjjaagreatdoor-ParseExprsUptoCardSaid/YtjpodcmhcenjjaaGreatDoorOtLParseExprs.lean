/- The statement 'ParseExprs' of liquidchecklaw21, upto. No further condition. -/
import Derived.Test.YtjpodcmhcenjjaaGreatDoorOtBaseU
set_option linter.unusedVariables false
set_option linter.unusedSimpArgs false
set_option linter.unusedSectionVars false
set_option maxRecDepth 100000
set_option maxHeartbeats 64000000
open Go.Proofs.Tryz
namespace Go.Proofs.YtjpodcmhcenjjaaGreatDoor.parseExprs
open Go Go.VM Go.ChangeShapes Go.WideShapes Go.ChangeAt Go.RowKit
abbrev ARGS:Array Value:=#[Value.string ⟨#[]⟩]
theorem d8i(H:Type)(enc:TypeId×Value->H)(W:World)(base:Nat)(args:Array Value)(ds gs:List (DataW H))(before:List MemPlace)(a2l:∀(j:Nat) t v,f7.params[j]? =some t->args[j]? =some v->Value.okWide prog W .any base t v)(hW:DataW.Whole enc prog f7.params.toList Rows.parseExprsSpec.vars false W args.toList ds gs before)(hL:laidMetH prog Rows.parseExprsRow.laid W)(hk:Rows.uptoSmall H (ds++gs)=true):
  Calls prog 7 args W λe W'=>∃v,e=.returned v/\Rows.parseExprsSpec.post enc prog f7 false true false false W args v W':=
 b5U sE hmr hsf c9T (ts:=[9]) (by rw[params7]) (by decide) rfl rfl (by kernel_rfl:prog.underlying 4=some .bool)
  (λds h=>match ds,h with|[_],_=>rfl) parseExprs_all a2l hW (b4H hL) hk
theorem d8j(os:Os):laidMetH prog Rows.parseExprsRow.laid ((b2Q os).forCall (λ_ _=>0) ⟨#[],ARGS,[]⟩).memory:=
 c4X (by rfl) (laidMet_of_run' 8 (by kernel_rfl) (by kernel_rfl))
theorem reads(os:Os){H:Type}(enc:TypeId×Value->H):∃ds places,DataW.whole enc prog ((b2Q os).forCall (λ_ _=>0) ⟨#[],ARGS,[]⟩).memory f7.params.toList Rows.parseExprsSpec.vars false ARGS.toList 8=some (ds,[],places)/\Rows.uptoSmall H (ds++[])=true:=
 ⟨[.lit (.string [])],[],by kernel_rfl,by kernel_rfl⟩
theorem lifted(os:Os)(started:os.Started)(H:Type)(enc:TypeId×Value->H)(F:Stop.Interp):
  ReturnsInHanded {} checked os 7 .any ((Rows.OpenSpec.upto Rows.parseExprsSpec).preRow enc prog f7 Rows.parseExprsUptoRow.domain false Rows.parseExprsUptoRow.laid) (((Rows.OpenSpec.upto Rows.parseExprsSpec).at F).post enc prog f7 false true false false):=by
 obtain⟨ds0,places,hx,hk0⟩:=reads os enc;refine returnsInHanded_of_row (C:=checked) (s:=(Rows.OpenSpec.upto Rows.parseExprsSpec)) mN started (by kernel_rfl) func7
  (witness_row_atRef (enc:=enc) (C:=checked) false (b2Q os) ARGS rfl (by kernel_rfl) (by kernel_rfl) (by kernel_rfl)
   (OpenSpec.preRow_of_cond 8 hx (by kernel_rfl) (λk hk=>by cases hk;exact hk0) (by kernel_rfl) (d8j os))) ?_
 intro W base args ds gs before a2l hW _ d4v _ hL _ _;exact d8i H enc W base args ds gs before a2l hW hL (d4v _ rfl)
theorem closed:joinedFacts prog 7 f7 (Rows.OpenSpec.upto Rows.parseExprsSpec).bare Rows.parseExprsUptoRow=true:=by unfold joinedFacts;simp only[g0W];refine⟨⟨⟨⟨⟨⟨⟨⟨⟨⟨⟨⟨⟨⟨⟨⟨⟨⟨⟨⟨⟨⟨⟨⟨⟨⟨⟨⟨⟨⟨⟨?_,?_⟩,?_⟩,?_⟩,?_⟩,?_⟩,?_⟩,?_⟩,?_⟩,?_⟩,?_⟩,?_⟩,?_⟩,?_⟩,?_⟩,?_⟩,?_⟩,?_⟩,?_⟩,?_⟩,?_⟩,?_⟩,?_⟩,?_⟩,?_⟩,?_⟩,?_⟩,?_⟩,?_⟩,?_⟩,?_⟩,?_⟩<;>as_aux_lemma=>kernel_rfl
theorem said:Rows.ParseExprsUptoSaid:=
 OpenClaim.holds_of_cond 7 f7 rfl rfl rfl rfl rfl rfl rfl ⟨rfl,rfl,rfl,rfl,rfl⟩ rfl rfl rfl rfl rfl (by kernel_rfl) func7 closed
  (of_decide_eq_true (by kernel_rfl)) (by unfold Func.isWrapper;first|(rw[if_pos (by decide+kernel)];kernel_rfl)|(rw[if_neg (by decide+kernel)];exact⟨rfl,rfl⟩))
  (λos started H enc _ F=>by rw[OpenClaim.pre_eq_preRow];exact lifted os started H enc F)
theorem plain(f:FuncId)(fn:Func)(hf:Tryz.pinned.checked.prog.funcNamed "liquidcheck/liquidchecklaw21.ParseExprs" =some f) (hfn:Tryz.pinned.checked.prog.funcs[f]? =some fn):
  true=Tryz.pinned.checked.prog.looks []/\∀(j:Nat) t,fn.params[j]? =some t->Tryz.pinned.checked.prog.wantsStandIn t=false:=by
 obtain rfl:f=7:=Option.some.inj ((show prog.funcNamed "liquidcheck/liquidchecklaw21.ParseExprs" =some 7 by kernel_rfl).symm.trans hf) |>.symm;obtain rfl:fn=f7:=(Option.some.inj (func7.symm.trans hfn)).symm;refine⟨by kernel_rfl,λj t ht=>?_⟩;rw[params7]at ht;have hm:t∈[9]:=by simpa using Array.mem_of_getElem? ht
 have dR:([9].all λt=> !prog.wantsStandIn t)=true:=by kernel_rfl
 have hw:=g0Z.1 dR t hm;have hw':prog.wantsStandIn t=false:=by simpa using hw
 exact hw'
theorem card:Rows.ParseExprsUptoCardSaid:=
 Claim7.holds_tied_plain_at .later [] _ _ _ _ said (λ_ h=>by cases h) (by kernel_rfl) (λ_ h=>by cases h) parseExprsUpto_row_tie rfl ⟨rfl,rfl⟩ (by kernel_rfl) rfl plain (by kernel_rfl)
#print axioms card
end Go.Proofs.YtjpodcmhcenjjaaGreatDoor.parseExprs
