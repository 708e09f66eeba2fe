/- The abstract machine on plain data: regions, code, loops, calls: what is shown on data holds of the model. No condition. -/
import Derived.Test.YtdnkdeplpnbojaaDoorVmD
import Derived.Deep.LoopGhost
import Derived.Orders
set_option linter.unusedVariables false
set_option linter.unusedSimpArgs false
set_option linter.unusedSectionVars false
namespace Go.VM
open Go Go.RowKit

section
variable {P : Program} {G : GT} {st : St} {out : Out}
variable {base : Nat} {R R' : Nat → Nat → Prop} {μ : Nat → Nat} {a : Act} {w w' : World}

theorem vBuiltin_ok {o : Oper} {b : Builtin} {args : Array Operand} {ts : Array TypeId} (ho : o.op = .call { callee := .builtin b, args := args, argTypes := ts }) (h : vBuiltin P G b args.toList ts.toList st = some out) : OpOk P G o st out := by
  obtain ⟨args⟩ := args
  obtain ⟨ts⟩ := ts
  simp only at h
  unfold vBuiltin at h
  split at h
  · exact vLen_ok ho h
  · exact vAppend_ok ho h
  · exact vDelete_ok ho rfl h
  · cases h

/-- EVERY OPERATION THAT THE MACHINE ON DATA TAKES. -/
theorem vop_ok {o : Oper} (h : vop P G o st = some out) : OpOk P G o st out := by
  unfold vop at h
  split at h
  · exact vMove_ok (.inl ‹_›) h
  · exact vMove_ok (.inr ‹_›) h
  · exact vPick_ok ‹_› h
  · exact vAlloc_ok ‹_› h
  · exact vBox_ok ‹_› h
  · exact vBuild_ok ‹_› h
  · exact vBuildSlice_ok ‹_› h
  · exact vLoad_ok ‹_› h
  · exact vStore_ok ‹_› h
  · exact vNilCheck_ok ‹_› h
  · exact vBinN_ok ‹_› h
  · exact vUn_ok ‹_› h
  · exact vConv_ok ‹_› h
  · exact vMakeMap_ok ‹_› h
  · exact vLookup_ok ‹_› h
  · exact vMapUpdate_ok ‹_› h
  · exact vExtract_ok ‹_› h
  · exact vField_ok ‹_› h
  · exact vIndex_ok ‹_› h
  · exact vIndexAddr_ok ‹_› h
  · exact vFieldAddr_ok ‹_› h
  · exact vSlice_ok ‹_› h
  · exact vRange_ok ‹_› h
  · exact vNext_ok ‹_› h
  · exact vBuiltin_ok ‹_› h
  · cases h
end

/-! ### Regions and code -/

section
variable (P : Program) (G : GT)

def ownOA : Option TypeId → OA
  | some e => .fresh e
  | none => .no

/-- A function that is entered when it is called. -/
def Enters (f : FuncId) : Prop := ∃ fn, P.funcs[f]? = some fn ∧ fn.body.isNone = false ∧ (fn.name == "runtime.NumGoroutine") = false

/-- An operation that changes nothing but its own temporary. -/
def quietOp : Op → Bool
  | .move _ | .assign _ | .pick _ _ _ | .build _ _ | .buildSlice _ _ _ | .load _ _ | .nilCheck _ | .binOp _ _ _ _ _ | .unOp _ _ _ | .convert _ _ _ | .lookup _ _ _ _ | .extract _ _ | .field _ _ _ | .index _ _ _ | .indexAddr _ _ _ | .fieldAddr _ _ _ | .slice _ _ _ _ _ => true
  | .call { callee := .value _, .. } => true
  | .call { callee := .builtin .len, .. } => true
  | _ => false
/-- Where the order is drawn, a quiet operation's result owns nothing. -/
def appArgs : List Oper → List Tmp
  | [] => []
  | o :: r => match o.op with
    | .call { callee := .builtin .append, args, .. } => match args.toList with
      | .tmp i :: _ => i :: appArgs r
      | _ => appArgs r
    | _ => appArgs r
def appDsts : List Oper → List Tmp
  | [] => []
  | o :: r => match o.op, o.dst with
    | .call { callee := .builtin .append, .. }, some i => i :: appDsts r
    | _, _ => appDsts r
/-- A copy that an append of the region takes, or of what an append of the region gives. -/
def noisy (all : Array Oper) (o : Oper) : Bool :=
  match o.guard, o.op, o.dst with
  | none, .move (.tmp j), some i => j != i && (appArgs all.toList).contains i
  | none, .assign (.tmp j), some i => j != i && (appDsts all.toList).contains j
  | _, _, _ => false
/-- Such a copy shares what it is a copy of. -/
def qAct (all : Array Oper) (o : Oper) (d : DV) : OA :=
  if noisy all o then (match o.op with
    | .move x => slAct d (tmpAct x)
    | .assign x => slAct d (tmpAct x)
    | _ => .no) else .no
def actQ (q : Bool) (all : Array Oper) (o : Oper) (d : DV) (act : OA) : OA := if q && quietOp o.op then qAct all o d else act
def vOne (q : Bool) (all : Array Oper) (o : Oper) (K : St → Prop) (st : St) : Prop :=
  match wantedD o all st.tmps with
  | some true =>
    match callOf G o st with
    | some (f, ds) => ∃ r own, (Enters P f ∧ CS P G f ds r own) ∧ K (finish st o.dst r (if q then .no else ownOA own))
    | none =>
      match vop P G o st with
      | some out => K (finish out.st o.dst out.v (actQ q all o out.v out.act))
      | none => False
  | some false => K (finish st o.dst (.tup []) .no)
  | none => False
def VOps (q : Bool) (all : Array Oper) : List Oper → St → (St → Prop) → Prop
  | [], st, K => K st
  | o :: rest, st, K => vOne P G q all o (fun s => VOps q all rest s K) st

/-- j comes after i, whatever the order. -/
def reachB (ops : Array Oper) : Nat → Nat → Nat → Bool
  | 0, _, _ => false
  | n + 1, j, i => match ops[j]? with
    | some o => o.after.any fun e => Region.binds .any e && (e.on == i || reachB ops n e.on i)
    | none => false
/-- The lexical order serves: what may come ahead of an operation is apart from it. -/
def lexFrom (ops : Array Oper) : Nat → Nat → Array Bool → Bool
  | 0, _, listed => (Region.ready .any ops listed).isEmpty
  | fuel + 1, k, listed => (Region.ready .any ops listed).contains k &&
    (match ops[k]? with
    | none => false
    | some oi =>
      (List.range ops.size).all fun j => j == k || listed.getD j true || reachB ops ops.size j k || (match ops[j]? with
        | some oj => oi.apart ops oj && quietOp oj.op && quietOp oi.op && !(noisy ops oi && noisy ops oj)
        | none => true)) &&
    lexFrom ops fuel (k + 1) (listed.setIfInBounds k true)
def lexD (ops : Array Oper) : Bool := lexFrom ops ops.size 0 (Array.replicate ops.size false)

def VW : Code → St → (Exit → St → Prop) → Prop
  | .skip, st, Q => Q .normal st
  | .region _ ops draw, st, Q => (draw = true → P.follows .mixedOrders = true ∧ lexD ops = true) ∧ VOps P G draw ops ops.toList st fun s => Q .normal s
  | .seq x y, st, Q => VW x st fun e s => match e with
    | .normal => VW y s Q
    | e => Q e s
  | .cond c x y, st, Q =>
    match st.eval G c with
    | .d (.bool t) => if t then VW x st Q else VW y st Q
    | .anyb => VW x st Q ∧ VW y st Q
    | _ => False
  | .block id c, st, Q => VW c st fun e s => match e with
    | .exit id' => if id' = id then Q .normal s else Q (.exit id') s
    | e => Q e s
  | .loop c, st, Q => SW P G (.loop c) st Q
  | .exit id, st, Q => Q (.exit id) st
  | .ret, st, Q => Q .ret st
  | _, _, _ => False
end

section
variable {P : Program} {G : GT} {st : St} {out : Out}
variable {base : Nat} {R R' : Nat → Nat → Prop} {μ : Nat → Nat} {a : Act} {w w' : World}

theorem SW.mono {c : Code} {Q Q' : Exit → St → Prop} (hq : ∀ e s, Q e s → Q' e s) (h : SW P G c st Q) : SW P G c st Q' := fun base R μ a w hr =>
  wp_mono (h base R μ a w hr) fun _ _ _ ⟨st', R', μ', q, r, s⟩ => ⟨st', R', μ', hq _ _ q, r, s⟩

theorem wanted_ok (hr : Rel P G base R μ st a w) {o : Oper} {all : Array Oper} {b : Bool} (h : wantedD o all st.tmps = some b) : Region.wanted o (yielded all a.tmps) = b := by
  unfold wantedD at h
  unfold Region.wanted
  split at h
  · rename_i hg
    rw [hg]
    simpa using h
  · rename_i j want hg
    rw [hg]
    simp only
    unfold yieldedD at h
    unfold yielded
    cases hd : (all[j]?).bind (·.dst) with
    | none => rw [hd] at h; simp at h; subst h; rfl
    | some t =>
      rw [hd] at h
      simp only [Option.bind_some] at h ⊢
      by_cases ht : t < a.tmps.size
      · have h1 : a.tmps[t]? = some a.tmps[t] := Array.getElem?_eq_getElem ht
        have ht' : t < st.tmps.length := by rw [← hr.size]; exact ht
        have h2 : st.tmps[t]? = some st.tmps[t] := List.getElem?_eq_getElem ht'
        have hv := hr.tmps t _ _ h1 h2
        rw [h2] at h
        simp only [Option.getD_some] at h
        rw [h1]
        generalize a.tmps[t] = v at *
        generalize st.tmps[t] = d at *
        cases hv with
        | undef => cases h
        | anyb => cases h
        | d v x hx =>
          cases hx with
          | bool b' => simp at h; subst h; cases b' <;> cases want <;> rfl
          | _ => simp at h; subst h; rfl
        | _ => simp at h; subst h; rfl
      · have h1 : a.tmps[t]? = none := Array.getElem?_eq_none (Nat.le_of_not_lt ht)
        have h2 : st.tmps[t]? = none := List.getElem?_eq_none (by rw [← hr.size]; exact Nat.le_of_not_lt ht)
        rw [h2] at h
        simp at h; subst h
        rw [h1]
        rfl

theorem allD_spec (hr : Rel P G base R μ st a w) : ∀ {l : List Operand} {ds : List D}, allD (l.map (st.eval G)) = some ds → l.length = ds.length ∧ ∀ (i : Nat) (d : D), ds[i]? = some d → V R w ((l.map a.eval).getD i undef) d
  | [], ds, h => by simp [allD] at h; subst h; simp
  | x :: l, ds, h => by
    simp only [List.map_cons] at h
    cases hx : st.eval G x with
    | d y =>
      rw [hx] at h
      simp only [allD] at h
      split at h <;> simp at h
      rename_i ds' hds
      subst h
      obtain ⟨h1, h2⟩ := allD_spec hr hds
      refine ⟨by simp [h1], fun i d hi => ?_⟩
      cases i with
      | zero => simp at hi; subst hi; exact hr.evalD hx
      | succ i => simp at hi; simpa using h2 i d hi
    | _ => rw [hx] at h; simp [allD] at h

/-- The call of a function with a contract. -/
theorem call_ok {o : Oper} {f : FuncId} {ds : List D} {r : DV} {own : Option TypeId} (hc : callOf G o st = some (f, ds)) (hcs : Enters P f ∧ CS P G f ds r own) (hr : Rel P G base R μ st a w)
    {K : Act → World → Prop} {Q : Exit → Act → World → Prop} (h : ∀ v R' w', Rel P G base R' μ (finish st o.dst r (ownOA own)) (a.put o.dst v) w' → Step base R w R' w' → K (a.put o.dst v) w') : o.wp P a w K Q := by
  unfold callOf at hc
  split at hc
  · rename_i x args ts hop
    split at hc
    · rename_i f' ds' hx hds
      simp at hc
      obtain ⟨rfl, rfl⟩ := hc
      obtain ⟨⟨fn, hf1, hf2, hf3⟩, hcs⟩ := hcs
      obtain ⟨hl, hv⟩ := allD_spec hr hds
      have hexec : (execOp a.eval o).run P w = .ok (.enter f' (args.map a.eval)) w := by
        have hf2' : ¬ fn.body = none := fun he => by simp [he] at hf2
        have hf3' : ¬ fn.name = "runtime.NumGoroutine" := by simpa using hf3
        simp [execOp, hop, resolve, hr.evalFn hx, Deferred.ofValue, invoke, callFunc, hf1, hf2', hf3']
      unfold Oper.wp
      rw [hexec]
      show Calls P f' (args.map a.eval) w _
      refine (hcs w R (args.map a.eval) (hr.glob.up hr.base) hr.rset (by simpa using hl) (fun i d hi => by
        have := hv i d hi
        simpa [Array.getD_eq_getD_getElem?, List.getD] using this)).mono fun e w' ⟨v, R', he, htv, hs, hr', ho⟩ => ?_
      subst he
      have hsb : Step base R w R' w' := ⟨hs.below.mono hr.base, hs.mono, fun b o q1 q2 => Nat.le_trans hr.base (hs.new b o q1 q2), hs.cells⟩
      have hrel := hr.step hsb hs.below.block hs.new hr'
      refine h v R' w' (hrel.put (htv μ) ?_) hsb
      cases own with
      | none => trivial
      | some e =>
        have hown := ho e rfl
        refine ⟨?_, fun k o' hk hsp => ?_, ?_⟩
        · rcases hown with q | ⟨g, n, cap, cur, q1, q2, q3⟩
          · exact .inl q
          · exact .inr ⟨g, n, cap, cur, q1, Nat.le_trans hr.base q2, q3⟩
        · obtain ⟨_, _, h3⟩ := hr.objs k o' hk
          have h1 := hown.base_le hsp
          have h2 := h3.lt
          omega
        · obtain ⟨vs, hvs⟩ := hr.own
          refine ⟨vs, hvs.step hr hs.below.block (fun b o hb q => by
            by_cases hR : R b o
            · exact hR
            · have := hs.new b o q hR; omega), fun v' hv' => ⟨fun g hg hg' => ?_, fun g hg hg' => ?_⟩⟩
          · have h1 := hown.base_le hg
            have h2 := hvs.lt hv' hg'
            omega
          · have h1 := hown.base_le hg'
            have h2 := hvs.lt hv' hg
            omega
    · cases hc
  · cases hc

theorem CS.forget {f : FuncId} {ds : List D} {r : DV} {own : Option TypeId} (h : CS P G f ds r own) : CS P G f ds r none := fun w R args hg hR hl hv =>
  (h w R args hg hR hl hv).mono fun e w' ⟨v, R', h1, h2, h3, h4, _⟩ => ⟨v, R', h1, h2, h3, h4, fun _ he => by cases he⟩

theorem actQ_cases {P : Program} {G : GT} {st : St} {q : Bool} {all : Array Oper} {o : Oper} {out : Out} (h : vop P G o st = some out) : actQ q all o out.v out.act = .no ∨ actQ q all o out.v out.act = out.act := by
  unfold actQ
  split
  · unfold qAct
    split
    · split
      · rename_i x hop
        refine .inr ?_
        obtain ⟨dst, op, ty, pos, after, guard⟩ := o
        simp only at hop
        subst hop
        have hv : out = ⟨st.eval G x, slAct (st.eval G x) (tmpAct x), st⟩ := by simpa [vop, vMove] using h.symm
        rw [hv]
      · rename_i x hop
        refine .inr ?_
        obtain ⟨dst, op, ty, pos, after, guard⟩ := o
        simp only at hop
        subst hop
        have hv : out = ⟨st.eval G x, slAct (st.eval G x) (tmpAct x), st⟩ := by simpa [vop, vMove] using h.symm
        rw [hv]
      · exact .inl rfl
    · exact .inl rfl
  · exact .inr rfl

/-- ONE OPERATION. -/
theorem vOne_ok {q : Bool} {all : Array Oper} {o : Oper} {K : St → Prop} {Q : Exit → Act → World → Prop} {KK : Act → World → Prop} (h : vOne P G q all o K st) (hr : Rel P G base R μ st a w)
    (hk : ∀ s v w' R' μ', K s → Rel P G base R' μ' s (a.put o.dst v) w' → Step base R w R' w' → KK (a.put o.dst v) w') :
    if Region.wanted o (yielded all a.tmps) then o.wp P a w KK Q ∨ (o.asks P a w ∧ LetsOut Q) else KK (a.put o.dst Go.undef) w := by
  unfold vOne at h
  split at h
  · rename_i hw
    rw [wanted_ok hr hw, if_pos rfl]
    refine .inl ?_
    split at h
    · rename_i f ds hc
      obtain ⟨r, own, hcs, h⟩ := h
      cases q with
      | true =>
        exact call_ok hc ⟨hcs.1, hcs.2.forget⟩ hr fun v R1 w1 hrel hs => hk _ v w1 R1 μ h hrel hs
      | false =>
        exact call_ok hc hcs hr fun v R1 w1 hrel hs => hk _ v w1 R1 μ h hrel hs
    · split at h
      · rename_i out hv
        obtain ⟨v, w1, R1, μ1, hrun, hrel, htv, hact, hs⟩ := vop_ok hv base R μ a w hr
        have hact' : ActOk P base R1 μ1 out.st a w1 v (actQ q all o out.v out.act) := by
          rcases actQ_cases (q := q) (all := all) hv with he | he
          · rw [he]; trivial
          · rw [he]; exact hact
        have hgo := hk _ v w1 R1 μ1 h (hrel.put (dst := o.dst) htv hact') hs
        unfold Oper.wp
        rcases hrun with hrun | ⟨hrun, rfl⟩
        · rw [hrun]; exact hgo
        · rw [hrun]; exact hgo
      · cases h
  · rename_i hw
    rw [wanted_ok hr hw]
    simp only [Bool.false_eq_true, if_false]
    exact hk _ _ w R μ h (hr.put (dst := o.dst) (v := Go.undef) (.tup #[] [] rfl (by simp)) trivial) (.refl _ _ _)
  · cases h

theorem VOps_ok {q : Bool} (all : Array Oper) (Q : Exit → Act → World → Prop) : ∀ (l : List Oper) (st : St) (K : St → Prop), VOps P G q all l st K → ∀ (base : Nat) (R : Nat → Nat → Prop) (μ : Nat → Nat) (a : Act) (w : World), Rel P G base R μ st a w →
    (∀ s a' w' R' μ', K s → Rel P G base R' μ' s a' w' → Step base R w R' w' → Q .normal a' w') → wpList P all Q l a w
  | [], st, K, h, base, R, μ, a, w, hr, hk => hk st a w R μ h hr (.refl _ _ _)
  | o :: rest, st, K, h, base, R, μ, a, w, hr, hk => by
    unfold wpList
    exact vOne_ok h hr fun s v w' R' μ' h' hr' hs' => VOps_ok all Q rest s K h' base R' μ' _ w' hr' fun s a' w2 R2 μ2 q1 q2 q3 => hk s a' w2 R2 μ2 q1 q2 (hs'.trans q3)

/-! #### The order of a region, drawn -/

theorem vOne_mono {q : Bool} {all : Array Oper} {o : Oper} {K K' : St → Prop} (hk : ∀ s, K s → K' s) (h : vOne P G q all o K st) : vOne P G q all o K' st := by
  unfold vOne at *
  split
  · rename_i hw
    rw [hw] at h
    simp only at h ⊢
    split
    · rename_i f ds hc
      rw [hc] at h
      obtain ⟨r, own, h1, h2⟩ := h
      exact ⟨r, own, h1, hk _ h2⟩
    · rename_i hc
      rw [hc] at h
      simp only at h
      split
      · rename_i out ho
        rw [ho] at h
        exact hk _ h
      · rename_i ho
        rw [ho] at h
        exact h
  · rename_i hw
    rw [hw] at h
    exact hk _ h
  · rename_i hw
    rw [hw] at h
    exact h

/-- What a quiet operation yields. -/
def QY (P : Program) (G : GT) (all : Array Oper) (o : Oper) (d : DV) (st : St) : Prop :=
  (wantedD o all st.tmps = some true ∧ ((∃ f ds own, callOf G o st = some (f, ds) ∧ Enters P f ∧ CS P G f ds d own) ∨ (callOf G o st = none ∧ ∃ act, vop P G o st = some ⟨d, act, st⟩))) ∨ (wantedD o all st.tmps = some false ∧ d = .tup [])

/-- A quiet operation reads its operands and the objects. -/
theorem vop_quiet {o : Oper} (hq : quietOp o.op = true) {st' : St} (he : ∀ x ∈ o.op.operands, st'.eval G x = st.eval G x) (hH : st'.H = st.H) : vop P G o st' = (vop P G o st).map fun out => ⟨out.v, out.act, st'⟩ := by
  obtain ⟨dst, op, ty, pos, after, guard⟩ := o
  have parts : ∀ ps : List (Nat × Operand), (∀ x ∈ ps.map (·.2), st'.eval G x = st.eval G x) → partsD G st' ps = partsD G st ps := by
    intro ps
    induction ps with
    | nil => intro _; rfl
    | cons p ps ih =>
      intro hp
      obtain ⟨i, x⟩ := p
      unfold partsD
      rw [hp x (by simp), ih fun y hy => hp y (by simp at hy ⊢; exact .inr hy)]
  have bnd : ∀ (x : Option Operand) (d n : Nat), (∀ y, x = some y → st'.eval G y = st.eval G y) → optBound G st' x d n = optBound G st x d n := fun x d n hx => by
    cases x with
    | none => rfl
    | some y => simp only [optBound, hx y rfl]
  cases op <;> simp only [quietOp] at hq <;> try cases hq
  all_goals simp only [Op.operands] at he
  case move x => simp [vop, vMove, he]
  case assign x => simp [vop, vMove, he]
  case pick c a b => simp only [vop, vPick, he c (by simp), he a (by simp), he b (by simp)]; split <;> rfl
  case build t ps =>
    simp only [vop, vBuild, parts ps.toList fun x hx => he x (by simpa using hx)]
    split
    · split
      · simp [Option.map_map, Function.comp_def]
      · rfl
    · rfl
  case buildSlice t n ps =>
    simp only [vop, vBuildSlice, parts ps.toList fun x hx => he x (by simpa using hx)]
    split
    · split <;> rfl
    · rfl
  case load t x =>
    simp only [vop, vLoad, he x (by simp), hH]
    split
    · split
      · simp [Option.map_map, Function.comp_def]
      · rfl
    · simp [Option.map_map, Function.comp_def]
    · rfl
  case nilCheck x => simp only [vop, vNilCheck, he x (by simp)]; split <;> rfl
  case binOp op t x y u =>
    simp only [vop, vBinN, vNilTest, vBin, he x (by simp), he y (by simp)]
    split
    · split <;> rfl
    · split
      · simp [Option.map_map, Function.comp_def]
      · rfl
  case unOp op t x =>
    simp only [vop, vUn, he x (by simp)]
    split
    · simp [Option.map_map, Function.comp_def]
    · rfl
  case convert src dst x =>
    simp only [vop, vConv, he x (by simp)]
    split
    · simp [Option.map_map, Function.comp_def]
    · rfl
  case lookup t m k ok =>
    simp only [vop, vLookup, he m (by simp), he k (by simp), hH]
    split
    · split
      · simp [Option.map_map, Function.comp_def]
      · rfl
    · rfl
  case extract x i =>
    simp only [vop, vExtract, he x (by simp)]
    split
    · simp [Option.map_map, Function.comp_def]
    · rfl
  case field t x i =>
    simp only [vop, vField, he x (by simp)]
    split
    · simp [Option.map_map, Function.comp_def]
    · rfl
  case index t x i =>
    simp only [vop, vIndex, he x (by simp), he i (by simp)]
    split
    · simp [Option.map_bind, Option.map_map, Function.comp_def]
    · simp [Option.map_bind, Option.map_map, Function.comp_def]
    · rfl
  case indexAddr t x i =>
    simp only [vop, vIndexAddr, he x (by simp), he i (by simp)]
    split
    · rw [Option.map_bind]
      congr 1
      funext j
      simp only [Function.comp]
      rw [Option.map_bind]
      congr 1
      funext cs
      simp only [Function.comp]
      split <;> rfl
    · split
      · rfl
      · simp [Option.map_map, Function.comp_def]
    · split
      · rfl
      · simp [Option.map_map, Function.comp_def]
    · rfl
  case fieldAddr t x i =>
    simp only [vop, vFieldAddr, he x (by simp)]
    split
    · split
      · rfl
      · split <;> rfl
    · rfl
  case slice t x lo hi mx =>
    have hlo : ∀ y, lo = some y → st'.eval G y = st.eval G y := fun y hy => he y (by simp [hy])
    have hhi : ∀ y, hi = some y → st'.eval G y = st.eval G y := fun y hy => he y (by simp [hy])
    have hmx : ∀ y, mx = some y → st'.eval G y = st.eval G y := fun y hy => he y (by simp [hy])
    simp only [vop, vSlice, he x (by simp), bnd lo _ _ hlo, bnd hi _ _ hhi]
    split
    · simp [Option.map_bind, Option.map_map, Function.comp_def]
    · split
      · simp [Option.map_bind, Option.map_map, Function.comp_def]
      · rfl
    · split
      · simp [Option.map_bind, Option.map_map, Function.comp_def]
      · rfl
    · rw [bnd (some _) _ _ fun y hy => hmx y hy]; split <;> rfl
    · rw [bnd (some _) _ _ fun y hy => hmx y hy]; split <;> rfl
    · rfl
  case call c =>
    obtain ⟨callee, args, ts⟩ := c
    cases callee with
    | value f => simp [vop]
    | invoke r m => simp at hq
    | builtin b =>
      cases b <;> simp only [] at hq <;> try cases hq
      simp only [vop, vBuiltin]
      split
      · rename_i x t _ heq _
        have hx : st'.eval G x = st.eval G x := he x (by simp only [Call.operands]; rw [← Array.mem_toList_iff]; simp [heq])
        simp only [vLen, hx, hH]
        split
        · rfl
        · rfl
        · rfl
        · split <;> rfl
        · rfl
      · rename_i h1 _ _; cases h1
      · rename_i h1 _ _; cases h1
      · rfl
theorem vop_same {o : Oper} (hq : quietOp o.op = true) (h : vop P G o st = some out) : out.st = st := by
  have := vop_quiet (P := P) (G := G) (st := st) (st' := st) hq (fun _ _ => rfl) rfl
  rw [h] at this
  simp at this
  have h2 := congrArg Out.st this
  simpa using h2
theorem finish_H (st : St) (dst : Option Tmp) (d : DV) (act : OA) : (finish st dst d act).H = st.H := by cases dst <;> rfl
theorem eval_finish {dst : Option Tmp} {d : DV} {act : OA} {x : Operand} (h : ∀ t, dst = some t → x ≠ .tmp t) : (finish st dst d act).eval G x = st.eval G x := by
  cases dst with
  | none => rfl
  | some t =>
    cases x with
    | tmp j =>
      have hne : t ≠ j := fun e => h t rfl (e ▸ rfl)
      simp [finish, St.eval, List.getElem?_set_ne hne]
    | _ => rfl
theorem eval_looks {all : Array Oper} {o : Oper} {dst : Option Tmp} {d : DV} {act : OA} (h : ∀ t, dst = some t → t ∉ o.looksAt all) : ∀ x ∈ o.op.operands, (finish st dst d act).eval G x = st.eval G x := fun x hx =>
  eval_finish fun t ht hxt => h t ht (by
    subst hxt
    exact List.mem_append_left _ (List.mem_filterMap.2 ⟨.tmp t, by simpa using hx, rfl⟩))
theorem wantedD_finish {all : Array Oper} {o : Oper} {dst : Option Tmp} {d : DV} {act : OA} (h : ∀ t, dst = some t → t ∉ o.looksAt all) : wantedD o all (finish st dst d act).tmps = wantedD o all st.tmps := by
  cases dst with
  | none => rfl
  | some t =>
    unfold wantedD
    cases hg : o.guard with
    | none => rfl
    | some gw =>
      obtain ⟨g, want⟩ := gw
      have hy : yieldedD all (finish st (some t) d act).tmps g = yieldedD all st.tmps g := by
        unfold yieldedD
        cases ht : (all[g]?).bind (·.dst) with
        | none => rfl
        | some j =>
          have hne : t ≠ j := fun e => h t rfl (by subst e; simp [Oper.looksAt, hg, ht])
          simp [finish, List.getElem?_set_ne hne]
      simp only [hy]
theorem callOf_congr {o : Oper} {st' : St} (h : ∀ x ∈ o.op.operands, st'.eval G x = st.eval G x) : callOf G o st' = callOf G o st := by
  unfold callOf
  split
  · rename_i x args ts hop
    rw [hop] at h
    have hx := h x (by simp [Op.operands, Call.operands])
    have ha : args.toList.map (st'.eval G) = args.toList.map (st.eval G) := List.map_congr_left fun y hy => h y (by simp [Op.operands, Call.operands]; exact .inr (by simpa using hy))
    rw [hx, ha]
  · rfl
theorem QY.finish {all : Array Oper} {o : Oper} {d x : DV} {dst : Option Tmp} {act : OA} (hq : quietOp o.op = true) (h : ∀ t, dst = some t → t ∉ o.looksAt all) : QY P G all o d (VM.finish st dst x act) ↔ QY P G all o d st := by
  have he := eval_looks (G := G) (st := st) (d := x) (act := act) h
  unfold QY
  rw [wantedD_finish h, callOf_congr he, vop_quiet hq he (finish_H _ _ _ _)]
  refine or_congr (and_congr Iff.rfl (or_congr Iff.rfl (and_congr Iff.rfl ?_))) Iff.rfl
  constructor
  · rintro ⟨act, ha⟩
    simp only [Option.map_eq_some_iff] at ha
    obtain ⟨out, h1, h2⟩ := ha
    refine ⟨out.act, ?_⟩
    rw [h1]
    have := vop_same hq h1
    simp only [Out.mk.injEq] at h2
    rw [← h2.1, ← this]
  · rintro ⟨act, ha⟩
    exact ⟨act, by rw [ha]; rfl⟩
theorem qAct_cases (all : Array Oper) (o : Oper) (d : DV) : qAct all o d = .no ∨ ∃ j i, o.dst = some i ∧ noisy all o = true ∧ j ≠ i ∧ (o.op = .move (.tmp j) ∨ o.op = .assign (.tmp j)) ∧ o.guard = none ∧ qAct all o d = slAct d (.al (.t j)) := by
  unfold qAct
  split
  · rename_i hn
    have hn' := hn
    unfold noisy at hn
    split at hn
    · rename_i j i hg hop hd
      simp only [Bool.and_eq_true, bne_iff_ne] at hn
      refine .inr ⟨j, i, hd, hn', hn.1, .inl hop, hg, ?_⟩
      rw [hop]
      rfl
    · rename_i j i hg hop hd
      simp only [Bool.and_eq_true, bne_iff_ne] at hn
      refine .inr ⟨j, i, hd, hn', hn.1, .inr hop, hg, ?_⟩
      rw [hop]
      rfl
    · cases hn
  · exact .inl rfl
theorem vOne_quiet {all : Array Oper} {o : Oper} {K : St → Prop} (hq : quietOp o.op = true) : vOne P G true all o K st ↔ ∃ d, QY P G all o d st ∧ K (finish st o.dst d (qAct all o d)) := by
  have hact : ∀ d act, actQ true all o d act = qAct all o d := fun d act => by simp [actQ, hq]
  have hcall : ∀ x d, callOf G o st = some x → qAct all o d = .no := fun x d hc => by
    rcases qAct_cases all o d with h | ⟨j, i, q1, q2, q3, q4, q5⟩
    · exact h
    · unfold callOf at hc
      rcases q4 with q4 | q4 <;> (rw [q4] at hc; cases hc)
  have hoff : ∀ d, wantedD o all st.tmps = some false → qAct all o d = .no := fun d hw => by
    rcases qAct_cases all o d with h | ⟨j, i, q1, q2, q3, q4, q5⟩
    · exact h
    · unfold wantedD at hw
      rw [q5.1] at hw
      cases hw
  unfold vOne QY
  constructor
  · intro h
    split at h
    · rename_i hw
      rw [hw]
      split at h
      · rename_i f ds hc
        obtain ⟨r, own, ⟨h1, h2⟩, h3⟩ := h
        exact ⟨r, .inl ⟨rfl, .inl ⟨f, ds, own, hc, h1, h2⟩⟩, by rw [hcall _ _ hc]; exact h3⟩
      · rename_i hc
        split at h
        · rename_i out ho
          rw [hact] at h
          have hs := vop_same hq ho
          obtain ⟨v, act, s2⟩ := out
          simp only at hs; subst hs
          exact ⟨v, .inl ⟨rfl, .inr ⟨hc, act, ho⟩⟩, h⟩
        · cases h
    · rename_i hw
      exact ⟨.tup [], .inr ⟨hw, rfl⟩, by rw [hoff _ hw]; exact h⟩
    · cases h
  · rintro ⟨d, (⟨hw, ⟨f, ds, own, hc, h1, h2⟩ | ⟨hc, act, ho⟩⟩ | ⟨hw, rfl⟩), hk⟩
    · rw [hcall _ _ hc] at hk; rw [hw]; simp only; rw [hc]; exact ⟨d, own, ⟨h1, h2⟩, hk⟩
    · rw [hw]; simp only; rw [hc]; simp only; rw [ho]; simp only; rw [hact]; exact hk
    · rw [hoff _ hw] at hk; rw [hw]; exact hk
theorem dropLoc_comm (x y : Loc) (own : List (TypeId × List Loc)) : dropLoc x (dropLoc y own) = dropLoc y (dropLoc x own) := by
  simp only [dropLoc, List.map_map]
  refine List.map_congr_left fun c _ => ?_
  simp only [Function.comp, List.filter_filter]
  congr 1
  refine List.filter_congr fun l _ => ?_
  rw [Bool.and_comm]
theorem contains_drop {x l : Loc} (h : l ≠ x) (c : List Loc) : (c.filter fun y => decide (y ≠ x)).contains l = c.contains l := by
  rw [Bool.eq_iff_iff]
  simp only [List.contains_iff_mem, List.mem_filter, decide_eq_true_eq]
  exact ⟨fun h => h.1, fun h' => ⟨h', h⟩⟩
theorem alias_drop {s t x : Loc} (h1 : s ≠ x) (h2 : t ≠ x) (own : List (TypeId × List Loc)) : addAlias s t (dropLoc x own) = dropLoc x (addAlias s t own) := by
  simp only [addAlias, dropLoc, List.map_map]
  refine List.map_congr_left fun c _ => ?_
  simp only [Function.comp, contains_drop h1]
  split
  · simp [h2]
  · rfl
/-- A quiet operation's share and a result that owns nothing. -/
theorem own_comm {j t u : Tmp} {d : DV} (h1 : t ≠ u) (h2 : j ≠ u) (h3 : j ≠ t) (own : List (TypeId × List Loc)) : ownAct (.t u) .no (ownAct (.t t) (slAct d (.al (.t j))) own) = ownAct (.t t) (slAct d (.al (.t j))) (ownAct (.t u) .no own) := by
  have hd : ownAct (.t u) .no (ownAct (.t t) .no own) = ownAct (.t t) .no (ownAct (.t u) .no own) := dropLoc_comm _ _ _
  have ha : ownAct (.t u) .no (ownAct (.t t) (.al (.t j)) own) = ownAct (.t t) (.al (.t j)) (ownAct (.t u) .no own) := by
    simp only [ownAct]
    rw [if_neg (by simpa using h3)]
    rw [if_neg (by simpa using h3), ← alias_drop (s := .t j) (t := .t t) (x := .t u) (by simpa using h2) (by simpa using h1), dropLoc_comm (.t u) (.t t)]
  unfold slAct
  split <;> first | exact ha | exact hd
theorem looks_move {all : Array Oper} {o : Oper} {j : Tmp} (h : o.op = .move (.tmp j) ∨ o.op = .assign (.tmp j)) : j ∈ o.looksAt all := by
  rcases h with h | h <;> simp [Oper.looksAt, h, Op.operands]
theorem finish_comm {all : Array Oper} {x y : Oper} {d e : DV} (h : ∀ t, x.dst = some t → y.dst ≠ some t) (hx : ∀ t, x.dst = some t → t ∉ y.looksAt all) (hy : ∀ t, y.dst = some t → t ∉ x.looksAt all) (hn : (noisy all x && noisy all y) = false) :
    finish (finish st x.dst d (qAct all x d)) y.dst e (qAct all y e) = finish (finish st y.dst e (qAct all y e)) x.dst d (qAct all x d) := by
  cases hxd : x.dst with
  | none => cases y.dst <;> rfl
  | some t =>
    cases hyd : y.dst with
    | none => rfl
    | some u =>
      have hne : t ≠ u := fun he => h t hxd (he ▸ hyd)
      simp only [finish]
      rw [List.set_comm _ _ hne]
      congr 1
      rcases qAct_cases all x d with h1 | ⟨j, i, q1, q2, q3, q4, q5, h1⟩
      · rcases qAct_cases all y e with h2 | ⟨j, i, q1, q2, q3, q4, q5, h2⟩
        · rw [h1, h2]; exact dropLoc_comm _ _ _
        · rw [hyd] at q1; cases q1
          rw [h1, h2]
          exact (own_comm (Ne.symm hne) (fun he => hx t hxd (he ▸ looks_move q4)) q3 _).symm
      · rw [hxd] at q1; cases q1
        rcases qAct_cases all y e with h2 | ⟨j', i', p1, p2, p3, p4, p5, h2⟩
        · rw [h1, h2]
          exact own_comm hne (fun he => hy u hyd (he ▸ looks_move q4)) q3 _
        · rw [q2, p2] at hn; cases hn

/-- Any order that the region's edges allow. -/
def VAny (P : Program) (G : GT) (ops : Array Oper) (Q : St → Prop) : Nat → Array Bool → St → Prop
  | 0, listed, st => Region.ready .any ops listed = [] ∧ Q st
  | fuel + 1, listed, st => (Region.ready .any ops listed = [] → Q st) ∧ ∀ i ∈ Region.ready .any ops listed, match ops[i]? with
    | none => VAny P G ops Q fuel (listed.setIfInBounds i true) st
    | some o => vOne P G true ops o (VAny P G ops Q fuel (listed.setIfInBounds i true)) st

theorem VAny_ok {ops : Array Oper} {Q : St → Prop} {QQ : Exit → Act → World → Prop} : ∀ (fuel : Nat) (listed : Array Bool) (st : St), VAny P G ops Q fuel listed st → ∀ (base : Nat) (R : Nat → Nat → Prop) (μ : Nat → Nat) (a : Act) (w : World), Rel P G base R μ st a w →
    (∀ s a' w' R' μ', Q s → Rel P G base R' μ' s a' w' → Step base R w R' w' → QQ .normal a' w') → wpAny P .any ops QQ fuel listed a w
  | 0, _, st, h, base, R, μ, a, w, hr, hk => ⟨h.1, hk st a w R μ h.2 hr (.refl _ _ _)⟩
  | fuel + 1, listed, st, h, base, R, μ, a, w, hr, hk => by
    refine ⟨fun h0 => hk st a w R μ (h.1 h0) hr (.refl _ _ _), fun i hi => ?_⟩
    have h1 := h.2 i hi
    unfold wpOp
    split
    · rename_i ho
      rw [ho] at h1
      exact VAny_ok fuel _ st h1 base R μ a w hr hk
    · rename_i o ho
      rw [ho] at h1
      exact vOne_ok h1 hr fun s v w' R' μ' h' hr' hs' => VAny_ok fuel _ s h' base R' μ' _ w' hr' fun s a' w2 R2 μ2 q1 q2 q3 => hk s a' w2 R2 μ2 q1 q2 (hs'.trans q3)

/-- What is listed has its forerunners listed. -/
def Closed (ops : Array Oper) (listed : Array Bool) : Prop := ∀ k, listed.getD k false = true → ∀ o, ops[k]? = some o → ∀ e ∈ o.after, Region.binds .any e = true → listed.getD e.on false = true
theorem getD_tf {listed : Array Bool} {i : Nat} (h0 : listed.getD i true = false) (h1 : listed.getD i false = true) : False := by
  rcases Nat.lt_or_ge i listed.size with h' | h'
  · simp [h'] at h0 h1; rw [h0] at h1; cases h1
  · simp [Array.getElem?_eq_none h'] at h1
theorem reach_listed {ops : Array Oper} {listed : Array Bool} {i : Nat} (hc : Closed ops listed) (hi : listed.getD i true = false) : ∀ (n k : Nat), (∀ o, ops[k]? = some o → ∀ e ∈ o.after, Region.binds .any e = true → listed.getD e.on false = true) → reachB ops n k i = false
  | 0, _, _ => rfl
  | n + 1, k, hk => by
    unfold reachB
    split
    · rename_i o ho
      rw [Array.any_eq_false']
      intro e he
      by_cases hb : Region.binds .any e = true
      · have h1 := hk o ho e he hb
        have hne : e.on ≠ i := fun heq => getD_tf hi (heq ▸ h1)
        have := reach_listed hc hi n e.on fun o' ho' => hc e.on h1 o' ho'
        simp [hne, this]
      · simp [hb]
    · rfl
theorem Closed.set {ops : Array Oper} {listed : Array Bool} {j : Nat} (hc : Closed ops listed) (hj : j ∈ Region.ready .any ops listed) : Closed ops (listed.setIfInBounds j true) := by
  intro k hk o ho e he hb
  by_cases hjk : j = k
  · subst hjk
    obtain ⟨_, o', ho', hall⟩ := mem_ready.1 hj
    rw [ho] at ho'; cases ho'
    exact getD_set_true (hall e he hb)
  · rw [getD_set_ne false hjk] at hk
    exact getD_set_true (hc k hk o ho e he hb)

/-- A quiet operation taken first. -/
theorem VAny_first {ops : Array Oper} {Q : St → Prop} {i : Nat} {oi : Oper} {v : DV} (hi : ops[i]? = some oi) (hqi : quietOp oi.op = true) :
    ∀ (fuel : Nat) (listed : Array Bool) (st : St), Closed ops listed →
      (∀ j oj, ops[j]? = some oj → j ≠ i → listed.getD j true = false → reachB ops ops.size j i = false → oi.apart ops oj = true ∧ quietOp oj.op = true ∧ (noisy ops oi && noisy ops oj) = false) →
      i ∈ Region.ready .any ops listed → QY P G ops oi v st →
      VAny P G ops Q fuel (listed.setIfInBounds i true) (finish st oi.dst v (qAct ops oi v)) → VAny P G ops Q (fuel + 1) listed st := by
  intro fuel
  induction fuel with
  | zero =>
    intro listed st _ _ hr hy H
    refine ⟨fun h => (by rw [h] at hr; cases hr), fun j hj => ?_⟩
    by_cases hji : j = i
    · subst hji; rw [hi]; exact (vOne_quiet hqi).2 ⟨v, hy, H⟩
    · have := ready_mono hj hji
      rw [H.1] at this
      cases this
  | succ fuel ih =>
    intro listed st hcl hfree hr hy H
    refine ⟨fun h => (by rw [h] at hr; cases hr), fun j hj => ?_⟩
    by_cases hji : j = i
    · subst hji; rw [hi]; exact (vOne_quiet hqi).2 ⟨v, hy, H⟩
    · have h1 := H.2 j (ready_mono hj hji)
      obtain ⟨hjun, oj, hoj, hall⟩ := mem_ready.1 hj
      rw [hoj] at h1 ⊢
      simp only at h1 ⊢
      have hiun := (mem_ready.1 hr).1
      have hnot : reachB ops ops.size j i = false := reach_listed hcl hiun _ _ fun o ho => by rw [hoj] at ho; cases ho; exact hall
      obtain ⟨hap, hqj, hnn⟩ := hfree j oj hoj hji hjun hnot
      obtain ⟨a1, a2, a3⟩ := Oper.apart_spec hap
      obtain ⟨u, hu, hk⟩ := (vOne_quiet hqj).1 h1
      have hu' : QY P G ops oj u st := (QY.finish hqj a1).1 hu
      refine (vOne_quiet hqj).2 ⟨u, hu', ?_⟩
      refine ih (listed.setIfInBounds j true) _ (hcl.set hj) (fun k ok hk' hki hun hno => ?_) (ready_mono hr (Ne.symm hji)) ((QY.finish hqi a3).2 hy) ?_
      · refine hfree k ok hk' hki ?_ hno
        by_cases hjk : j = k
        · subst hjk; exact hjun
        · rw [getD_set_ne true hjk] at hun; exact hun
      · rw [Array.setIfInBounds_comm _ _ hji, ← finish_comm a2 a1 a3 hnn]
        exact hk

theorem VAny_lex {ops : Array Oper} {Q : St → Prop} : ∀ (l : List Oper) (k : Nat) (listed : Array Bool) (st : St), (∀ j, l[j]? = ops[k + j]?) → Closed ops listed →
    lexFrom ops l.length k listed = true → VOps P G true ops l st Q → VAny P G ops Q l.length listed st
  | [], _, _, _, _, _, hB, h => ⟨by simpa [lexFrom] using hB, h⟩
  | o :: l, k, listed, st, hl, hcl, hB, h => by
    have h0 : ops[k]? = some o := by simpa using (hl 0).symm
    simp only [List.length_cons, lexFrom, Bool.and_eq_true, h0] at hB
    obtain ⟨⟨hr, hf⟩, hB'⟩ := hB
    have hrk : k ∈ Region.ready .any ops listed := by simpa using hr
    have hnext : ∀ s, VOps P G true ops l s Q → VAny P G ops Q l.length (listed.setIfInBounds k true) s := fun s hs =>
      VAny_lex l (k + 1) _ s (fun j => by have := hl (j + 1); simpa [Nat.add_assoc, Nat.add_comm 1 j] using this) (hcl.set hrk) hB' hs
    have hspec : ∀ j oj, ops[j]? = some oj → j ≠ k → listed.getD j true = false → reachB ops ops.size j k = false → oj.after.size = oj.after.size ∧ o.apart ops oj = true ∧ quietOp oj.op = true ∧ quietOp o.op = true ∧ (noisy ops o && noisy ops oj) = false := by
      intro j oj hj hne hun hno
      rw [List.all_eq_true] at hf
      have h1 := hf j (List.mem_range.2 (Array.getElem?_eq_some_iff.1 hj).1)
      simp only [hj, Bool.or_eq_true, beq_iff_eq, hne, false_or, hun, Bool.false_eq_true, hno, Bool.and_eq_true, Bool.not_eq_true'] at h1
      exact ⟨rfl, h1.1.1.1, h1.1.1.2, h1.1.2, h1.2⟩
    by_cases hq : quietOp o.op = true
    · obtain ⟨d, hd, hk⟩ := (vOne_quiet hq).1 h
      exact VAny_first h0 hq l.length listed st hcl (fun j oj hj hne hun hno => ⟨(hspec j oj hj hne hun hno).2.1, (hspec j oj hj hne hun hno).2.2.1, (hspec j oj hj hne hun hno).2.2.2.2⟩) hrk hd (hnext _ hk)
    · -- it is the only one that can be taken
      refine ⟨fun h' => (by rw [h'] at hrk; cases hrk), fun j hj => ?_⟩
      by_cases hjk : j = k
      · subst hjk; rw [h0]; exact vOne_mono hnext h
      · obtain ⟨hjun, oj, hoj, hall⟩ := mem_ready.1 hj
        have hnot : reachB ops ops.size j k = false := reach_listed hcl (mem_ready.1 hrk).1 _ _ fun o' ho' => by rw [hoj] at ho'; cases ho'; exact hall
        exact absurd (hspec j oj hoj hjk hjun hnot).2.2.2.1 hq

theorem Rel.drew (hr : Rel P G base R μ st a w) : Rel P G base R μ st a w.drew ∧ Step base R w R w.drew :=
  have hs : Step base R w R w.drew := ⟨(Below.refl _ _).drew, fun _ _ h => h, fun _ _ h h' => absurd h h', fun _ _ _ => rfl⟩
  ⟨hr.step hs (fun _ _ => rfl) (fun _ _ h h' => absurd h h') hr.rset, hs⟩

/-- A REGION WHOSE ORDER IS DRAWN. -/
theorem region_any_ok {id : Nat} {ops : Array Oper} {Q : Exit → St → Prop} (hm : P.follows .mixedOrders = true) (hB : lexD ops = true) (h : VOps P G true ops ops.toList st fun s => Q .normal s) : SW P G (.region id ops true) st Q := by
  intro base R μ a w hr
  obtain ⟨hr', hs'⟩ := hr.drew
  have h1 := VAny_lex ops.toList 0 (Array.replicate ops.size false) st (by simp) (fun k hk => by
    rcases Nat.lt_or_ge k ops.size with h' | h'
    · simp [h'] at hk
    · simp [Nat.not_lt.2 h'] at hk) (by simpa [lexD] using hB) h
  rw [show ops.toList.length = ops.size by simp] at h1
  exact wp_region_any hm (VAny_ok ops.size _ st h1 base R μ a w.drew hr' fun s a' w' R' μ' q1 q2 q3 => ⟨s, R', μ', q1, q2, hs'.trans q3⟩)

theorem VW_ok : ∀ (c : Code) (st : St) (Q : Exit → St → Prop), VW P G c st Q → SW P G c st Q
  | .skip, st, Q, h => fun base R μ a w hr => wp_skip ⟨st, R, μ, h, hr, .refl _ _ _⟩
  | .region id ops draw, st, Q, h => by
    unfold VW at h
    cases draw with
    | true => exact region_any_ok (h.1 rfl).1 (h.1 rfl).2 h.2
    | false =>
      replace h := h.2
      exact fun base R μ a w hr => wp_region_list (VOps_ok ops _ ops.toList st _ h base R μ a w hr fun s a' w' R' μ' q1 q2 q3 => ⟨s, R', μ', q1, q2, q3⟩)
  | .seq x y, st, Q, h => fun base R μ a w hr => wp_seq (wp_mono (VW_ok x st _ h base R μ a w hr) fun e a1 w1 ⟨s, R1, μ1, q1, q2, q3⟩ => by
      cases e with
      | normal => exact wp_mono (VW_ok y s Q q1 base R1 μ1 a1 w1 q2) fun e2 a2 w2 ⟨s2, R2, μ2, p1, p2, p3⟩ => ⟨s2, R2, μ2, p1, p2, q3.trans p3⟩
      | _ => exact ⟨s, R1, μ1, q1, q2, q3⟩)
  | .cond c x y, st, Q, h => fun base R μ a w hr => by
    unfold VW at h
    split at h
    · rename_i t hc
      refine wp_cond (hr.evalBool hc) ?_
      cases t
      · exact VW_ok y st Q h base R μ a w hr
      · exact VW_ok x st Q h base R μ a w hr
    · rename_i hc
      obtain ⟨t, ht⟩ := hr.evalAny hc
      refine wp_cond ht ?_
      cases t
      · exact VW_ok y st Q h.2 base R μ a w hr
      · exact VW_ok x st Q h.1 base R μ a w hr
    · cases h
  | .block id c, st, Q, h => fun base R μ a w hr => wp_block (wp_mono (VW_ok c st _ h base R μ a w hr) fun e a1 w1 ⟨s, R1, μ1, q1, q2, q3⟩ => by
      cases e with
      | exit id' =>
        simp only [Exit.inBlock]
        simp only at q1
        by_cases hid : id' = id
        · rw [if_pos hid] at q1 ⊢; exact ⟨s, R1, μ1, q1, q2, q3⟩
        · rw [if_neg hid] at q1 ⊢; exact ⟨s, R1, μ1, q1, q2, q3⟩
      | _ => exact ⟨s, R1, μ1, q1, q2, q3⟩)
  | .loop c, st, Q, h => h
  | .exit id, st, Q, h => fun base R μ a w hr => wp_exit ⟨st, R, μ, h, hr, .refl _ _ _⟩
  | .ret, st, Q, h => fun base R μ a w hr => wp_ret ⟨st, R, μ, h, hr, .refl _ _ _⟩
  | .rangeFunc .., _, _, h => by simp [VW] at h
  | .scope .., _, _, h => by simp [VW] at h
  | .label .., _, _, h => by simp [VW] at h
  | .goto .., _, _, h => by simp [VW] at h
end
end Go.VM
