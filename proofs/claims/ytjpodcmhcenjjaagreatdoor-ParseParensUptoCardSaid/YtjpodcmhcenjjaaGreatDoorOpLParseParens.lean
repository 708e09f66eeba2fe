/- The statement 'ParseParens' of the package liquidchecklaw21, where what it reads is of bulk at most 1048576: for every input the law answers true and leaves its arguments as they were. Its row lists the package-level variables that its road reads, tied to the program's text. No further condition. -/
import Derived.Test.YtjpodcmhcenjjaaGreatDoorOpBaseQ
set_option linter.unusedVariables false
set_option linter.unusedSimpArgs false
set_option linter.unusedSectionVars false
set_option maxRecDepth 100000
set_option maxHeartbeats 64000000
namespace Go.Proofs.YtjpodcmhcenjjaaGreatDoor.parseParens
open Go Go.VM Go.ChangeShapes Go.WideShapes Go.ChangeAt Go.RowKit
abbrev c9O:Array Value:= #[Value.string ⟨#[]⟩]
theorem c5J (H:Type)(enc:TypeId×Value→H)(W:World)(base:Nat)(args:Array Value)(ds gs:List (DataW H))(before:List MemPlace)(hval:∀(j:Nat) t v,Tryz.f10.params[j]? =some t→args[j]? =some v→Value.okWide Tryz.prog W .any base t v)(hW:DataW.Whole enc Tryz.prog Tryz.f10.params.toList Rows.parseParensSpec.vars false W args.toList ds gs before)(hL:laidMetH Tryz.prog Rows.parseParensRow.laid W)(hk:Rows.uptoSmall H (ds++gs)=true):
  Calls Tryz.prog 10 args W fun e W'=>∃v,e= .returned v∧Rows.parseParensSpec.post enc Tryz.prog Tryz.f10 false true false false W args v W':=
 a8C rY hmr hsf b9i (ts:=[9]) (by rw [Tryz.params10]) (by decide) rfl rfl (by kernel_rfl:Tryz.prog.underlying 4=some .bool)
  (fun ds h=>match ds,h with|[_],_=>rfl) a7E hval hW (a6l hL) hk
theorem c5K (os:Os):laidMetH Tryz.prog Rows.parseParensRow.laid ((a6m os).forCall (fun _ _=>0) ⟨#[],c9O,[]⟩).memory:=
 b5t (by rfl) (laidMet_of_run' 8 (by kernel_rfl) (by kernel_rfl))
theorem reads (os:Os){H:Type}(enc:TypeId×Value→H):∃ds places,DataW.whole enc Tryz.prog ((a6m os).forCall (fun _ _=>0) ⟨#[],c9O,[]⟩).memory Tryz.f10.params.toList Rows.parseParensSpec.vars false c9O.toList 8=some (ds,[],places)∧Rows.uptoSmall H (ds++[])=true:=
 ⟨[.lit (.string [])],[],by kernel_rfl,by kernel_rfl⟩
theorem lifted (os:Os)(started:os.Started)(H:Type)(enc:TypeId×Value→H)(F:Stop.Interp):
  ReturnsInHanded {} Tryz.checked os 10 .any ((Rows.OpenSpec.upto Rows.parseParensSpec).preRow enc Tryz.prog Tryz.f10 Rows.parseParensUptoRow.domain false Rows.parseParensUptoRow.laid) (((Rows.OpenSpec.upto Rows.parseParensSpec).at F).post enc Tryz.prog Tryz.f10 false true false false):=by
 obtain ⟨ds0,places,hx,hk0⟩:=reads os enc;refine returnsInHanded_of_row (C:=Tryz.checked) (s:=(Rows.OpenSpec.upto Rows.parseParensSpec)) jR started (by kernel_rfl) Tryz.func10
  (witness_row_atRef (enc:=enc) (C:=Tryz.checked) false (a6m os) c9O rfl (by kernel_rfl) (by kernel_rfl) (by kernel_rfl)
   (OpenSpec.preRow_of_cond 8 hx (by kernel_rfl) (fun k hk=>by cases hk;exact hk0) (by kernel_rfl) (c5K os))) ?_
 intro W base args ds gs before hval hW _ hcond _ hL _ _;exact c5J H enc W base args ds gs before hval hW hL (hcond _ rfl)
theorem closed:joinedFacts Tryz.prog 10 Tryz.f10 (Rows.OpenSpec.upto Rows.parseParensSpec).bare Rows.parseParensUptoRow=true:=by unfold joinedFacts;simp only [d6W];refine ⟨⟨⟨⟨⟨⟨⟨⟨⟨⟨⟨⟨⟨⟨⟨⟨⟨⟨⟨⟨⟨⟨⟨⟨⟨⟨⟨⟨⟨⟨⟨?_,?_⟩,?_⟩,?_⟩,?_⟩,?_⟩,?_⟩,?_⟩,?_⟩,?_⟩,?_⟩,?_⟩,?_⟩,?_⟩,?_⟩,?_⟩,?_⟩,?_⟩,?_⟩,?_⟩,?_⟩,?_⟩,?_⟩,?_⟩,?_⟩,?_⟩,?_⟩,?_⟩,?_⟩,?_⟩,?_⟩,?_⟩<;>as_aux_lemma=>kernel_rfl
theorem said:Rows.ParseParensUptoSaid:=
 OpenClaim.holds_of_cond 10 Tryz.f10 rfl rfl rfl rfl rfl rfl rfl ⟨rfl,rfl,rfl,rfl,rfl⟩ rfl rfl rfl rfl rfl (by kernel_rfl) Tryz.func10 closed
  (of_decide_eq_true (by kernel_rfl)) (by unfold Func.isWrapper;first|(rw [if_pos (by decide+kernel)];kernel_rfl)|(rw [if_neg (by decide+kernel)];exact ⟨rfl,rfl⟩))
  (fun os started H enc _ F=>by rw [OpenClaim.pre_eq_preRow];exact lifted os started H enc F)
theorem plain (f:FuncId)(fn:Func)(hf:Tryz.pinned.checked.prog.funcNamed "liquidcheck/liquidchecklaw21.ParseParens" =some f) (hfn:Tryz.pinned.checked.prog.funcs[f]? =some fn):
  true=Tryz.pinned.checked.prog.looks []∧∀(j:Nat) t,fn.params[j]? =some t→Tryz.pinned.checked.prog.wantsStandIn t=false:=by
 obtain rfl:f=10:=Option.some.inj ((show Tryz.prog.funcNamed "liquidcheck/liquidchecklaw21.ParseParens" =some 10 by kernel_rfl).symm.trans hf) |>.symm
 obtain rfl:fn=Tryz.f10:=(Option.some.inj (Tryz.func10.symm.trans hfn)).symm;refine ⟨by kernel_rfl,fun j t ht=>?_⟩;rw [Tryz.params10] at ht;have hm:t∈[9]:=by simpa using Array.mem_of_getElem? ht
 have hall:([9].all fun t=> !Tryz.prog.wantsStandIn t)=true:=by kernel_rfl
 have hw:=d6Z.1 hall t hm;have hw':Tryz.prog.wantsStandIn t=false:=by simpa using hw
 exact hw'
theorem card:Rows.ParseParensUptoCardSaid:=
 Claim7.holds_tied_plain_at .later [] _ _ _ _ said (fun _ h=>by cases h) (by kernel_rfl) (fun _ h=>by cases h) parseParensUpto_row_tie rfl ⟨rfl,rfl⟩ (by kernel_rfl) rfl plain (by kernel_rfl)
#print axioms card
end Go.Proofs.YtjpodcmhcenjjaaGreatDoor.parseParens
