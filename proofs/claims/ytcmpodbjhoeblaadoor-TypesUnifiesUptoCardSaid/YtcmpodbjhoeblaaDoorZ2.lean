/- Joined texts. The abstract machine on plain data: regions, code, loops, calls: what is shown on data holds of the model. No condition. -/
import Derived.Test.YtcmpodbjhoeblaaDoorZ1
import Derived.Deep.LoopGhost
import Derived.Orders
import Derived.Scope
set_option linter.unusedVariables false
set_option linter.unusedSimpArgs false
set_option linter.unusedSectionVars false
namespace Go.VM
open Go Go.RowKit

section
variable {P : Program} {G : GT} {st : St} {out : Out}
variable {base : Base} {R R' : Nat → Nat → Prop} {μ : Nat → Nat} {a : Act} {w w' : World}

theorem vMax_ok {o : Oper} {x y : Operand} {ts : Array TypeId} (ho : o.op = .call { callee := .builtin .max, args := #[x, y], argTypes := ts }) (h : vMax G x y st = some out) : OpOk P G o st out := by
  unfold vMax at h
  split at h
  · rename_i k a k' b hx hy
    simp only [Option.some.injEq] at h; subst h
    refine opOk_pure fun base R μ a w hr => ⟨_, ?_, .d _ _ (.int _ _), trivial⟩
    simp [execOp, ho, resolve, invoke, builtin, Builtin.max_, Builtin.max2, hr.evalInt hx, hr.evalInt hy]
  · cases h
theorem vMin_ok {o : Oper} {x y : Operand} {ts : Array TypeId} (ho : o.op = .call { callee := .builtin .min, args := #[x, y], argTypes := ts }) (h : vMin G x y st = some out) : OpOk P G o st out := by
  unfold vMin at h
  split at h
  · rename_i k a k' b hx hy
    simp only [Option.some.injEq] at h; subst h
    refine opOk_pure fun base R μ a w hr => ⟨_, ?_, .d _ _ (.int _ _), trivial⟩
    simp [execOp, ho, resolve, invoke, builtin, Builtin.min_, Builtin.min2, hr.evalInt hx, hr.evalInt hy]
  · cases h
theorem vBuiltin_ok {o : Oper} {b : Builtin} {args : Array Operand} {ts : Array TypeId} (ho : o.op = .call { callee := .builtin b, args := args, argTypes := ts }) (h : vBuiltin P G b args.toList ts.toList st = some out) : OpOk P G o st out := by
  obtain ⟨args⟩ := args
  obtain ⟨ts⟩ := ts
  simp only at h
  unfold vBuiltin at h
  split at h
  · exact vLen_ok ho h
  · exact vAppend_ok ho h
  · exact vDelete_ok ho rfl h
  · exact vMax_ok ho h
  · exact vMin_ok ho h
  · cases h

theorem vMakeFunc_ok {o : Oper} {fn : Fn} {first captured : Array Operand} (ho : o.op = .makeFunc fn first captured) (h : vMakeFunc G fn first captured st = some out) : OpOk P G o st out := by
  unfold vMakeFunc at h
  split at h
  · rename_i f
    split at h
    · rename_i hf
      simp only [Option.some.injEq] at h; subst h
      have hf' : first = #[] := by simpa using hf
      refine opOk_pure fun base R μ a w hr => ⟨.func (.func f) #[] (captured.map a.eval), by simp [execOp, ho, Instr.makeFunc, hf'], ?_, trivial⟩
      split
      · rename_i hc
        have hc' : captured = #[] := by simpa using hc
        subst hc'
        rw [show Array.map a.eval #[] = #[] by simp]
        exact .fn f
      · refine .clo f _ _ (by simp) fun i c hi => ?_
        rw [List.getElem?_map] at hi
        obtain ⟨x, hx, rfl⟩ := Option.map_eq_some_iff.1 hi
        have : (captured.map a.eval).getD i Go.undef = a.eval x := by
          have hx' : captured[i]? = some x := by simpa using hx
          simp [Array.getD_eq_getD_getElem?, hx']
        rw [this]
        exact hr.eval x
    · cases h
  · cases h

/-- EVERY OPERATION THAT THE MACHINE ON DATA TAKES. -/
theorem vop_ok {o : Oper} (h : vop P G o st = some out) : OpOk P G o st out := by
  unfold vop at h
  split at h
  · exact vMove_ok (.inl ‹_›) h
  · exact vMove_ok (.inr ‹_›) h
  · exact vPick_ok ‹_› h
  · exact vAlloc_ok ‹_› h
  · exact vBox_ok ‹_› h
  · exact vBuild_ok ‹_› h
  · exact vBuildSlice_ok ‹_› h
  · exact vLoad_ok ‹_› h
  · exact vStore_ok ‹_› h
  · exact vNilCheck_ok ‹_› h
  · exact vBinN_ok ‹_› h
  · exact vUn_ok ‹_› h
  · exact vConv_ok ‹_› h
  · exact vMakeMap_ok ‹_› h
  · exact vMakeFunc_ok ‹_› h
  · exact vLookup_ok ‹_› h
  · exact vMapUpdate_ok ‹_› h
  · exact vExtract_ok ‹_› h
  · exact vField_ok ‹_› h
  · exact vIndex_ok ‹_› h
  · exact vIndexAddr_ok ‹_› h
  · exact vFieldAddr_ok ‹_› h
  · exact vSlice_ok ‹_› h
  · exact vRange_ok ‹_› h
  · exact vNext_ok ‹_› h
  · exact vBuiltin_ok ‹_› h
  · cases h
end

/-! ### Regions and code -/

section
variable (P : Program) (G : GT)

def ownOA : Option TypeId → OA
  | some e => .fresh e
  | none => .no

/-- A function that is entered when it is called. -/
def Enters (f : FuncId) : Prop := ∃ fn, P.funcs[f]? = some fn ∧ fn.body.isNone = false ∧ (fn.name == "runtime.NumGoroutine") = false

/-- An operation that changes nothing but its own temporary. -/
def quietOp : Op → Bool
  | .move _ | .assign _ | .pick _ _ _ | .build _ _ | .buildSlice _ _ _ | .load _ _ | .nilCheck _ | .binOp _ _ _ _ _ | .unOp _ _ _ | .convert _ _ _ | .lookup _ _ _ _ | .extract _ _ | .field _ _ _ | .index _ _ _ | .indexAddr _ _ _ | .fieldAddr _ _ _ | .slice _ _ _ _ _ => true
  | .call { callee := .value _, .. } => true
  | .call { callee := .builtin .len, .. } => true
  | .call { callee := .builtin .max, .. } => true
  | .call { callee := .builtin .min, .. } => true
  | _ => false
/-- Where the order is drawn, a quiet operation's result owns nothing. -/
def appArgs : List Oper → List Tmp
  | [] => []
  | o :: r => match o.op with
    | .call { callee := .builtin .append, args, .. } => match args.toList with
      | .tmp i :: _ => i :: appArgs r
      | _ => appArgs r
    | _ => appArgs r
def appDsts : List Oper → List Tmp
  | [] => []
  | o :: r => match o.op, o.dst with
    | .call { callee := .builtin .append, .. }, some i => i :: appDsts r
    | _, _ => appDsts r
/-- A copy that an append of the region takes, or of what an append of the region gives. -/
def noisy (all : Array Oper) (o : Oper) : Bool :=
  match o.guard, o.op, o.dst with
  | none, .move (.tmp j), some i => j != i && (appArgs all.toList).contains i
  | none, .assign (.tmp j), some i => j != i && (appDsts all.toList).contains j
  | none, .load _ (.tmp _), some i => (appArgs all.toList).contains i
  | none, .call { callee := .value _, .. }, some i => (appArgs all.toList).contains i
  | none, .buildSlice _ _ _, some i => (appArgs all.toList).contains i
  | _, _, _ => false
/-- Such a copy shares what it is a copy of. -/
def qAct (all : Array Oper) (o : Oper) (act : OA) : OA := if noisy all o then act else .no
def actQ (q : Bool) (all : Array Oper) (o : Oper) (_ : DV) (act : OA) : OA := if q && quietOp o.op then qAct all o act else act
/-- What a call comes to. -/
def CallTo (f : FuncId) (as : List DV) (ls : List (Option Loc)) (st : St) (dst : Option Tmp) (s' : St) : Prop :=
  ∀ (base : Base) (R : Nat → Nat → Prop) (μ : Nat → Nat) (a : Act) (w : World) (args : Array Value), Rel P G base R μ st a w → args.size = as.length → (∀ (i : Nat) (d : DV), as[i]? = some d → TV R μ w (args.getD i undef) d) →
    (∀ (i : Nat) (l : Loc), ls[i]? = some (some l) → ∀ u, locVal a w μ l = some u → u = args.getD i undef) →
    Calls P f args w fun e w' => ∃ v R' μ', e = .returned v ∧ Rel P G base R' μ' s' (a.put dst v) w' ∧ Step base R w R' w'
/-- Of each operation, from the last one back, the set of those that it comes behind, as a number. -/
def rowsOf : List Oper → Nat → List Nat → List Nat
  | [], _, rows => rows
  | o :: r, n, rows => Nat.rec (rowsOf r (n + 1) (0 :: rows)) (fun m _ => rowsOf r (n + 1) (Nat.succ m :: rows)) (o.after.toList.foldl (fun acc e => if Region.binds .any e = true ∧ e.on < n then acc ||| ((1 <<< e.on) ||| rows.getD (n - 1 - e.on) 0) else acc) 0)
/-- j comes after i, whatever the order. -/
def reachB (ops : Array Oper) (_ j i : Nat) : Bool := decide (j < ops.size) && ((rowsOf ops.toList 0 []).getD (ops.size - 1 - j) 0).testBit i
/-- An operation to which every other one stands in a fixed order. -/
def aloneO (all : Array Oper) (o : Oper) : Bool := (List.range all.size).all fun k => match all[k]? with
  | some o' => o'.dst != o.dst || (List.range all.size).all fun j => j == k || reachB all all.size j k || reachB all all.size k j
  | none => true
/-- No owned slice lies in these objects. -/
def locOk (ks : List Nat) : Loc → Bool
  | .c k _ => !ks.contains k
  | .t _ => true
def noOwnAt (ks : List Nat) (own : List (TypeId × List Loc)) : Bool := own.all fun c => c.2.all (locOk ks)
/-- A value that names no object. -/
def keyless : DV → Bool
  | .ptr _ _ => false
  | .mp _ => false
  | .it _ => false
  | .clo _ _ => false
  | .ag _ => false
  | _ => true
/-- A call that reads objects, and leaves all as it is. -/
def RO (f : FuncId) (as : List DV) (ks : List Nat) (H : List (Nat × AObj)) (d : DV) : Prop :=
  ∀ st : St, (∀ k ∈ ks, getKey k st.H = getKey k H) → noOwnAt ks st.own = true → ∀ dst ls, CallTo P G f as ls st dst (finish st dst d .no)
/-- The call of a function that is handed objects: where the order is drawn it either reads alone, or no order is open. -/
def hcall (ro : Bool) (f : FuncId) (as : List DV) (ls : List (Option Loc)) (dst : Option Tmp) (st : St) (K : St → Prop) : Prop :=
  if ro = true then ∃ d ks, (Enters P f ∧ RO P G f as ks st.H d ∧ noOwnAt ks st.own = true ∧ (ks.all fun k => (getKey k st.H).isSome) = true ∧ keyless d = true) ∧ K (finish st dst d .no)
  else ∃ s', (Enters P f ∧ CallTo P G f as ls st dst s') ∧ K s'
def isNew (o : Oper) : Bool := match o.op, o.dst with
  | .alloc _, some _ => true
  | _, _ => false
/-- The objects that a region makes. -/
def newKeys (ops : Array Oper) : List Nat := ops.toList.filterMap fun o => if isNew o then o.dst else none
/-- Is a call to read alone? -/
def strictQ (q : Bool) (all : Array Oper) (o : Oper) : Bool := q && (!aloneO all o || !(newKeys all).isEmpty)
def vOne (q : Bool) (all : Array Oper) (o : Oper) (K : St → Prop) (st : St) : Prop :=
  match wantedD o all st.tmps with
  | some true =>
    match callOf G o st with
    | some (f, ds) => (∃ r own, (Enters P f ∧ CS P G f ds r own) ∧ (q = true → keyless r = true) ∧ K (finish st o.dst r (if q && !noisy all o then .no else ownOA own))) ∨
      (strictQ q all o = false ∧ ∃ s', (Enters P f ∧ CallTo P G f (ds.map .d) (locsOf o) st o.dst s') ∧ K s')
    | none =>
      match callOfH G o st with
      | some (f, as) => hcall P G (strictQ q all o) f as (locsOf o) o.dst st K
      | none =>
        match vop P G o st with
        | some out => K (finish out.st o.dst out.v (actQ q all o out.v out.act))
        | none => False
  | some false => K (finish st o.dst (.tup []) .no)
  | none => False
def VOps (q : Bool) (all : Array Oper) : List Oper → St → (St → Prop) → Prop
  | [], st, K => K st
  | o :: rest, st, K => vOne P G q all o (fun s => VOps q all rest s K) st

def isVCall (o : Oper) : Bool := match o.op with
  | .call { callee := .value _, .. } => true
  | _ => false
def isApp (o : Oper) : Bool := match o.op with
  | .call { callee := .builtin .append, .. } => true
  | _ => false
def isSt (o : Oper) : Bool := match o.op, o.dst with
  | .store _ _ _, none => true
  | _, _ => false
/-- A quiet operation that reads no memory. -/
def pureOp : Op → Bool
  | .move _ | .assign _ | .pick _ _ _ | .nilCheck _ | .binOp _ _ _ _ _ | .unOp _ _ _ | .convert _ _ _ | .extract _ _ | .field _ _ _ | .index _ _ _ | .indexAddr _ _ _ | .fieldAddr _ _ _ | .slice _ _ _ _ _ => true
  | _ => false
def semi (o : Oper) : Bool := isApp o || isNew o || isSt o
def tame (all : Array Oper) (o : Oper) : Bool := (quietOp o.op || isApp o || isNew o || (match o.op with
  | .store _ _ _ => true
  | .mapUpdate _ _ _ _ => true
  | _ => false))
/-- Two operations whose order does not matter. -/
def pairOk (all : Array Oper) (x y : Oper) : Bool := (quietOp x.op && quietOp y.op && !(noisy all x && noisy all y)) || (quietOp x.op && isApp y && !noisy all x) || (isApp x && quietOp y.op && !noisy all y && !isVCall y) || (quietOp x.op && isNew y) || (isNew x && quietOp y.op && !isVCall y) || ((isApp x || isNew x) && (isApp y || isNew y) && (isNew x || isNew y)) || (pureOp x.op && !noisy all x && isSt y) || (isSt x && pureOp y.op && !noisy all y)
def objFree (k : Nat) : AObj → Bool
  | .cells cs => cs.all fun c => !mentions k c
  | _ => true
/-- The object's name is free. -/
def keyFree (k : Nat) (st : St) : Bool := (st.tmps.all fun v => !mentions k v) && (st.H.all fun p => p.1 != k && objFree k p.2) && (st.own.all fun c => c.2.all fun l => !l.ofKey k)
def freshB (ops : Array Oper) (st : St) : Bool := (newKeys ops).all fun k => keyFree k st
/-- The lexical order serves: what may come ahead of an operation is apart from it. -/
def lexFrom (ops : Array Oper) : Nat → Nat → Array Bool → Bool
  | 0, _, listed => (Region.ready .any ops listed).isEmpty
  | fuel + 1, k, listed => (Region.ready .any ops listed).contains k &&
    (match ops[k]? with
    | none => false
    | some oi =>
      (List.range ops.size).all fun j => j == k || listed.getD j true || reachB ops ops.size j k || (match ops[j]? with
        | some oj => oi.apart ops oj && pairOk ops oi oj
        | none => true)) &&
    lexFrom ops fuel (k + 1) (listed.setIfInBounds k true)
def lexD (ops : Array Oper) : Bool := ((newKeys ops).isEmpty || (ops.toList.all (tame ops) && decide ((newKeys ops).Nodup))) && lexFrom ops ops.size 0 (Array.replicate ops.size false)

def VW : Code → St → (Exit → St → Prop) → Prop
  | .skip, st, Q => Q .normal st
  | .region _ ops draw, st, Q => (draw = true → P.follows .mixedOrders = true ∧ lexD ops = true ∧ freshB ops st = true) ∧ VOps P G draw ops ops.toList st fun s => Q .normal s
  | .seq x y, st, Q => VW x st fun e s => match e with
    | .normal => VW y s Q
    | e => Q e s
  | .cond c x y, st, Q =>
    match st.eval G c with
    | .d (.bool t) => if t then VW x st Q else VW y st Q
    | .anyb => VW x st Q ∧ VW y st Q
    | _ => False
  | .block id c, st, Q => VW c st fun e s => match e with
    | .exit id' => if id' = id then Q .normal s else Q (.exit id') s
    | e => Q e s
  | .loop c, st, Q => SW P G (.loop c) st Q
  | .exit id, st, Q => Q (.exit id) st
  | .ret, st, Q => Q .ret st
  | .label _, st, Q => Q .normal st
  | .scope c, st, Q => VW c st fun e s => match e with
    | .goto _ => False
    | e => Q e s
  | _, _, _ => False
end

section
variable {P : Program} {G : GT} {st : St} {out : Out}
variable {base : Base} {R R' : Nat → Nat → Prop} {μ : Nat → Nat} {a : Act} {w w' : World}

theorem SW.mono {c : Code} {Q Q' : Exit → St → Prop} (hq : ∀ e s, Q e s → Q' e s) (h : SW P G c st Q) : SW P G c st Q' := fun base R μ a w hr =>
  wp_mono (h base R μ a w hr) fun _ _ _ ⟨st', R', μ', q, r, s⟩ => ⟨st', R', μ', hq _ _ q, r, s⟩

theorem wanted_ok (hr : Rel P G base R μ st a w) {o : Oper} {all : Array Oper} {b : Bool} (h : wantedD o all st.tmps = some b) : Region.wanted o (yielded all a.tmps) = b := by
  unfold wantedD at h
  unfold Region.wanted
  split at h
  · rename_i hg
    rw [hg]
    simpa using h
  · rename_i j want hg
    rw [hg]
    simp only
    unfold yieldedD at h
    unfold yielded
    cases hd : (all[j]?).bind (·.dst) with
    | none => rw [hd] at h; simp at h; subst h; rfl
    | some t =>
      rw [hd] at h
      simp only [Option.bind_some] at h ⊢
      by_cases ht : t < a.tmps.size
      · have h1 : a.tmps[t]? = some a.tmps[t] := Array.getElem?_eq_getElem ht
        have ht' : t < st.tmps.length := by rw [← hr.size]; exact ht
        have h2 : st.tmps[t]? = some st.tmps[t] := List.getElem?_eq_getElem ht'
        have hv := hr.tmps t _ _ h1 h2
        rw [h2] at h
        simp only [Option.getD_some] at h
        rw [h1]
        generalize a.tmps[t] = v at *
        generalize st.tmps[t] = d at *
        cases hv with
        | undef => cases h
        | anyb => cases h
        | d v x hx =>
          cases hx with
          | bool b' => simp at h; subst h; cases b' <;> cases want <;> rfl
          | _ => simp at h; subst h; rfl
        | _ => simp at h; subst h; rfl
      · have h1 : a.tmps[t]? = none := Array.getElem?_eq_none (Nat.le_of_not_lt ht)
        have h2 : st.tmps[t]? = none := List.getElem?_eq_none (by rw [← hr.size]; exact Nat.le_of_not_lt ht)
        rw [h2] at h
        simp at h; subst h
        rw [h1]
        rfl

theorem allD_spec (hr : Rel P G base R μ st a w) : ∀ {l : List Operand} {ds : List D}, allD (l.map (st.eval G)) = some ds → l.length = ds.length ∧ ∀ (i : Nat) (d : D), ds[i]? = some d → V R w ((l.map a.eval).getD i undef) d
  | [], ds, h => by simp [allD] at h; subst h; simp
  | x :: l, ds, h => by
    simp only [List.map_cons] at h
    cases hx : st.eval G x with
    | d y =>
      rw [hx] at h
      simp only [allD] at h
      split at h <;> simp at h
      rename_i ds' hds
      subst h
      obtain ⟨h1, h2⟩ := allD_spec hr hds
      refine ⟨by simp [h1], fun i d hi => ?_⟩
      cases i with
      | zero => simp at hi; subst hi; exact hr.evalD hx
      | succ i => simp at hi; simpa using h2 i d hi
    | _ => rw [hx] at h; simp [allD] at h

/-- The call of a function with a contract. -/
theorem call_ok {o : Oper} {f : FuncId} {ds : List D} {r : DV} {own : Option TypeId} (hc : callOf G o st = some (f, ds)) (hcs : Enters P f ∧ CS P G f ds r own) (hr : Rel P G base R μ st a w)
    {K : Act → World → Prop} {Q : Exit → Act → World → Prop} (h : ∀ v R' w', Rel P G base R' μ (finish st o.dst r (ownOA own)) (a.put o.dst v) w' → Step base R w R' w' → K (a.put o.dst v) w') : o.wp P a w K Q := by
  unfold callOf at hc
  split at hc
  · rename_i x args ts hop
    split at hc
    · rename_i f' ds' hx hds
      simp at hc
      obtain ⟨rfl, rfl⟩ := hc
      obtain ⟨⟨fn, hf1, hf2, hf3⟩, hcs⟩ := hcs
      obtain ⟨hl, hv⟩ := allD_spec hr hds
      have hexec : (execOp a.eval o).run P w = .ok (.enter f' (args.map a.eval)) w := by
        have hf2' : ¬ fn.body = none := fun he => by simp [he] at hf2
        have hf3' : ¬ fn.name = "runtime.NumGoroutine" := by simpa using hf3
        simp [execOp, hop, resolve, hr.evalFn hx, Deferred.ofValue, invoke, callFunc, hf1, hf2', hf3']
      unfold Oper.wp
      rw [hexec]
      show Calls P f' (args.map a.eval) w _
      refine (hcs w R (args.map a.eval) (hr.glob.up hr.base) hr.rset (by simpa using hl) (fun i d hi => by
        have := hv i d hi
        simpa [Array.getD_eq_getD_getElem?, List.getD] using this)).mono fun e w' ⟨v, R', he, htv, hs, hr', ho⟩ => ?_
      subst he
      have hsb : Step base R w R' w' := ⟨hs.below.mono hr.base, hs.mono, fun b o q1 q2 => hr.base b (hs.new b o q1 q2), hs.cells⟩
      have hrel := hr.step hsb hs.below.below.block hs.new hr'
      refine h v R' w' (hrel.put (htv μ) ?_) hsb
      cases own with
      | none => trivial
      | some e =>
        have hown := ho e rfl
        refine ⟨?_, fun k o' hk hsp => ?_, ?_⟩
        · rcases hown with q | ⟨g, n, cap, cur, q1, q2, q3⟩
          · exact .inl q
          · exact .inr ⟨g, n, cap, cur, q1, hr.base _ q2, q3⟩
        · obtain ⟨_, _, h3⟩ := hr.objs k o' hk
          have h1 : w.heap.size ≤ μ k := hown.base_le hsp
          have h2 := h3.lt
          omega
        · obtain ⟨vs, hvs⟩ := hr.own
          refine ⟨vs, hvs.step hr hs.below.below.block (fun b o hb q => by
            by_cases hR : R b o
            · exact hR
            · have := hs.new b o q hR; omega), fun v' hv' => ⟨fun g hg hg' => ?_, fun g hg hg' => ?_⟩⟩
          · have h1 : w.heap.size ≤ g := hown.base_le hg
            have h2 := hvs.lt hv' hg'
            omega
          · have h1 : w.heap.size ≤ g := hown.base_le hg'
            have h2 := hvs.lt hv' hg
            omega
    · cases hc
  · cases hc

theorem CS.forget {f : FuncId} {ds : List D} {r : DV} {own : Option TypeId} (h : CS P G f ds r own) : CS P G f ds r none := fun w R args hg hR hl hv =>
  (h w R args hg hR hl hv).mono fun e w' ⟨v, R', h1, h2, h3, h4, _⟩ => ⟨v, R', h1, h2, h3, h4, fun _ he => by cases he⟩

/-- The call of a function that is handed objects. -/
theorem callH_ok {o : Oper} {f : FuncId} {as : List DV} {s' : St} (hc : callOfH G o st = some (f, as)) (hcs : Enters P f ∧ CallTo P G f as (locsOf o) st o.dst s') (hr : Rel P G base R μ st a w)
    {K : Act → World → Prop} {Q : Exit → Act → World → Prop} (h : ∀ v R' μ' w', Rel P G base R' μ' s' (a.put o.dst v) w' → Step base R w R' w' → K (a.put o.dst v) w') : o.wp P a w K Q := by
  obtain ⟨⟨fn, hf1, hf2, hf3⟩, hcs⟩ := hcs
  have hf2' : ¬ fn.body = none := fun he => by simp [he] at hf2
  have hf3' : ¬ fn.name = "runtime.NumGoroutine" := by simpa using hf3
  have main : ∀ args : Array Value, (execOp a.eval o).run P w = .ok (.enter f args) w → args.size = as.length → (∀ (i : Nat) (d : DV), as[i]? = some d → TV R μ w (args.getD i undef) d) →
      (∀ (i : Nat) (l : Loc), (locsOf o)[i]? = some (some l) → ∀ u, locVal a w μ l = some u → u = args.getD i undef) → o.wp P a w K Q := fun args hexec hl hv hloc => by
    unfold Oper.wp
    rw [hexec]
    show Calls P f args w _
    refine (hcs base R μ a w args hr hl hv hloc).mono fun e w' ⟨v, R', μ', he, hrel, hs⟩ => ?_
    subst he
    exact h v R' μ' w' hrel hs
  have each : ∀ (l : List Operand) (i : Nat) (d : DV), (l.map (st.eval G))[i]? = some d → TV R μ w ((l.map a.eval).getD i undef) d := fun l i d hi => by
    rw [List.getElem?_map] at hi
    obtain ⟨x, hx, rfl⟩ := Option.map_eq_some_iff.1 hi
    have : (l.map a.eval).getD i undef = a.eval x := by simp [List.getD, hx]
    rw [this]
    exact hr.eval x
  have locs : ∀ (args : Array Operand) (vs : Array Value), locsOf o = args.toList.map argLoc → ∀ (i : Nat) (l : Loc), (locsOf o)[i]? = some (some l) → ∀ u, locVal a w μ l = some u → u = (args.map a.eval ++ vs).getD i undef := fun args vs hlo i l hi u hu => by
    rw [hlo, List.getElem?_map] at hi
    obtain ⟨x, hx, hxl⟩ := Option.map_eq_some_iff.1 hi
    cases x with
    | tmp t =>
      simp only [argLoc, Option.some.injEq] at hxl
      subst hxl
      simp only [locVal] at hu
      have hlt : i < args.size := by
        have := (List.getElem?_eq_some_iff.1 hx).1
        simpa using this
      have he : args[i]? = some (.tmp t) := by simpa using hx
      rw [Array.getD_eq_getD_getElem?, Array.getElem?_append_left (by simpa using hlt), Array.getElem?_map, he]
      simp [Act.eval, hu]
    | _ => cases hxl
  unfold callOfH at hc
  split at hc
  · rename_i x args ts hop
    have hlo : locsOf o = args.toList.map argLoc := by simp [locsOf, hop]
    split at hc
    · rename_i f' hx
      simp at hc
      obtain ⟨rfl, rfl⟩ := hc
      refine main (args.map a.eval) ?_ (by simp) (fun i d hi => ?_) (by simpa using locs args #[] hlo)
      · simp [execOp, hop, resolve, hr.evalFn hx, Deferred.ofValue, invoke, callFunc, hf1, hf2', hf3']
      · have := each args.toList i d hi
        simpa [Array.getD_eq_getD_getElem?, List.getD] using this
    · rename_i f' cs hx
      simp at hc
      obtain ⟨rfl, rfl⟩ := hc
      obtain ⟨vs, he, hvs, hvc⟩ := (hr.evalTV hx).clo_inv
      refine main (args.map a.eval ++ vs) ?_ (by simp [hvs]) (fun i d hi => ?_) (locs args vs hlo)
      · simp [execOp, hop, resolve, he, Deferred.ofValue, invoke, callFunc, hf1, hf2', hf3']
      · by_cases hlt : i < args.size
        · rw [List.getElem?_append_left (by simpa using hlt)] at hi
          have := each args.toList i d hi
          rw [Array.getD_eq_getD_getElem?, Array.getElem?_append_left (by simpa using hlt)]
          simpa [Array.getD_eq_getD_getElem?, List.getD] using this
        · rw [List.getElem?_append_right (by simp; omega)] at hi
          simp only [List.length_map, Array.length_toList] at hi
          have := hvc _ d hi
          rw [Array.getD_eq_getD_getElem?, Array.getElem?_append_right (by simp; omega)]
          simpa [Array.getD_eq_getD_getElem?] using this
    · cases hc
  · cases hc

theorem actQ_cases {P : Program} {G : GT} {st : St} {q : Bool} {all : Array Oper} {o : Oper} {out : Out} (_ : vop P G o st = some out) : actQ q all o out.v out.act = .no ∨ actQ q all o out.v out.act = out.act := by
  unfold actQ qAct
  split
  · split
    · exact .inr rfl
    · exact .inl rfl
  · exact .inr rfl

theorem allD_map : ∀ {l : List DV} {ds : List D}, allD l = some ds → l = ds.map .d
  | [], ds, h => by simp [allD] at h; subst h; rfl
  | .d x :: l, ds, h => by
    simp only [allD] at h
    split at h
    · rename_i ds' hd
      simp at h; subst h
      rw [allD_map hd]; rfl
    · cases h
  | .undef :: _, _, h => by simp [allD] at h
  | .ptr _ _ :: _, _, h => by simp [allD] at h
  | .ep _ :: _, _, h => by simp [allD] at h
  | .mp _ :: _, _, h => by simp [allD] at h
  | .it _ :: _, _, h => by simp [allD] at h
  | .tup _ :: _, _, h => by simp [allD] at h
  | .fn _ :: _, _, h => by simp [allD] at h
  | .anyb :: _, _, h => by simp [allD] at h
  | .nilp _ :: _, _, h => by simp [allD] at h
  | .clo _ _ :: _, _, h => by simp [allD] at h
  | .ag _ :: _, _, h => by simp [allD] at h
theorem callOfH_of {o : Oper} {f : FuncId} {ds : List D} (h : callOf G o st = some (f, ds)) : callOfH G o st = some (f, ds.map .d) := by
  unfold callOf at h
  unfold callOfH
  split at h
  · rename_i x args ts hop
    split at h
    · rename_i f' ds' hx hds
      simp at h
      obtain ⟨rfl, rfl⟩ := h
      simp only [hop, hx]
      rw [allD_map hds]
    · cases h
  · cases h
/-- ONE OPERATION. -/
theorem vOne_ok {q : Bool} {all : Array Oper} {o : Oper} {K : St → Prop} {Q : Exit → Act → World → Prop} {KK : Act → World → Prop} (h : vOne P G q all o K st) (hr : Rel P G base R μ st a w)
    (hk : ∀ s v w' R' μ', K s → Rel P G base R' μ' s (a.put o.dst v) w' → Step base R w R' w' → KK (a.put o.dst v) w') :
    if Region.wanted o (yielded all a.tmps) then o.wp P a w KK Q ∨ (o.asks P a w ∧ LetsOut Q) else KK (a.put o.dst Go.undef) w := by
  unfold vOne at h
  split at h
  · rename_i hw
    rw [wanted_ok hr hw, if_pos rfl]
    refine .inl ?_
    split at h
    · rename_i f ds hc
      rcases h with ⟨r, own, hcs, _, h⟩ | ⟨_, s', hcs, h⟩
      · generalize (q && !noisy all o) = qn at h
        cases qn with
        | true =>
          exact call_ok hc ⟨hcs.1, hcs.2.forget⟩ hr fun v R1 w1 hrel hs => hk _ v w1 R1 μ h hrel hs
        | false =>
          exact call_ok hc hcs hr fun v R1 w1 hrel hs => hk _ v w1 R1 μ h hrel hs
      · exact callH_ok (callOfH_of hc) hcs hr fun v R1 μ1 w1 hrel hs => hk _ v w1 R1 μ1 h hrel hs
    · split at h
      · rename_i f as hch
        unfold hcall at h
        split at h
        · obtain ⟨d, ks, ⟨h1, h2, h3, _⟩, h⟩ := h
          exact callH_ok hch ⟨h1, h2 st (fun _ _ => rfl) h3 _ _⟩ hr fun v R1 μ1 w1 hrel hs => hk _ v w1 R1 μ1 h hrel hs
        · obtain ⟨s', hcs, h⟩ := h
          exact callH_ok hch hcs hr fun v R1 μ1 w1 hrel hs => hk _ v w1 R1 μ1 h hrel hs
      split at h
      · rename_i out hv
        obtain ⟨v, w1, R1, μ1, hrun, hrel, htv, hact, hs⟩ := vop_ok hv base R μ a w hr
        have hact' : ActOk P base R1 μ1 out.st a w1 v (actQ q all o out.v out.act) := by
          rcases actQ_cases (q := q) (all := all) hv with he | he
          · rw [he]; trivial
          · rw [he]; exact hact
        have hgo := hk _ v w1 R1 μ1 h (hrel.put (dst := o.dst) htv hact') hs
        unfold Oper.wp
        rcases hrun with hrun | ⟨hrun, rfl⟩
        · rw [hrun]; exact hgo
        · rw [hrun]; exact hgo
      · cases h
  · rename_i hw
    rw [wanted_ok hr hw]
    simp only [Bool.false_eq_true, if_false]
    exact hk _ _ w R μ h (hr.put (dst := o.dst) (v := Go.undef) (.tup #[] [] rfl (by simp)) trivial) (.refl _ _ _)
  · cases h

theorem VOps_ok {q : Bool} (all : Array Oper) (Q : Exit → Act → World → Prop) : ∀ (l : List Oper) (st : St) (K : St → Prop), VOps P G q all l st K → ∀ (base : Base) (R : Nat → Nat → Prop) (μ : Nat → Nat) (a : Act) (w : World), Rel P G base R μ st a w →
    (∀ s a' w' R' μ', K s → Rel P G base R' μ' s a' w' → Step base R w R' w' → Q .normal a' w') → wpList P all Q l a w
  | [], st, K, h, base, R, μ, a, w, hr, hk => hk st a w R μ h hr (.refl _ _ _)
  | o :: rest, st, K, h, base, R, μ, a, w, hr, hk => by
    unfold wpList
    exact vOne_ok h hr fun s v w' R' μ' h' hr' hs' => VOps_ok all Q rest s K h' base R' μ' _ w' hr' fun s a' w2 R2 μ2 q1 q2 q3 => hk s a' w2 R2 μ2 q1 q2 (hs'.trans q3)

/-! #### The order of a region, drawn -/

theorem vOne_mono {q : Bool} {all : Array Oper} {o : Oper} {K K' : St → Prop} (hk : ∀ s, K s → K' s) (h : vOne P G q all o K st) : vOne P G q all o K' st := by
  unfold vOne at *
  split
  · rename_i hw
    rw [hw] at h
    simp only at h ⊢
    split
    · rename_i f ds hc
      rw [hc] at h
      rcases h with ⟨r, own, h1, h3, h2⟩ | ⟨h0, s', h1, h2⟩
      · exact .inl ⟨r, own, h1, h3, hk _ h2⟩
      · exact .inr ⟨h0, s', h1, hk _ h2⟩
    · rename_i hc
      rw [hc] at h
      simp only at h
      split
      · rename_i f as hch
        rw [hch] at h
        simp only [hcall] at h ⊢
        split
        · rename_i hro
          rw [if_pos hro] at h
          obtain ⟨d, ks, h1, h2⟩ := h
          exact ⟨d, ks, h1, hk _ h2⟩
        · rename_i hro
          rw [if_neg hro] at h
          obtain ⟨s', h1, h2⟩ := h
          exact ⟨s', h1, hk _ h2⟩
      rename_i hch
      rw [hch] at h
      simp only at h
      split
      · rename_i out ho
        rw [ho] at h
        exact hk _ h
      · rename_i ho
        rw [ho] at h
        exact h
  · rename_i hw
    rw [hw] at h
    exact hk _ h
  · rename_i hw
    rw [hw] at h
    exact h

/-- What a quiet operation yields. -/
def QY (P : Program) (G : GT) (all : Array Oper) (o : Oper) (d : DV) (act : OA) (st : St) : Prop :=
  (wantedD o all st.tmps = some true ∧ ((∃ f ds own, callOf G o st = some (f, ds) ∧ Enters P f ∧ CS P G f ds d own ∧ keyless d = true ∧ act = ownOA own) ∨ (callOf G o st = none ∧ callOfH G o st = none ∧ vop P G o st = some ⟨d, act, st⟩) ∨
    (callOf G o st = none ∧ ∃ f as ks, callOfH G o st = some (f, as) ∧ Enters P f ∧ RO P G f as ks st.H d ∧ noOwnAt ks st.own = true ∧ (ks.all fun k => (getKey k st.H).isSome) = true ∧ keyless d = true ∧ act = .no))) ∨ (wantedD o all st.tmps = some false ∧ d = .tup [] ∧ act = .no)

/-- A quiet operation reads its operands and the objects. -/
theorem vop_quiet {o : Oper} (hq : quietOp o.op = true) {st' : St} (he : ∀ x ∈ o.op.operands, st'.eval G x = st.eval G x) (hH : ∀ x ∈ o.op.operands, ∀ k, mentions k (st.eval G x) = true → getKey k st'.H = getKey k st.H) : vop P G o st' = (vop P G o st).map fun out => ⟨out.v, out.act, st'⟩ := by
  obtain ⟨dst, op, ty, pos, after, guard⟩ := o
  have parts : ∀ ps : List (Nat × Operand), (∀ x ∈ ps.map (·.2), st'.eval G x = st.eval G x) → partsD G st' ps = partsD G st ps := by
    intro ps
    induction ps with
    | nil => intro _; rfl
    | cons p ps ih =>
      intro hp
      obtain ⟨i, x⟩ := p
      unfold partsD
      rw [hp x (by simp), ih fun y hy => hp y (by simp at hy ⊢; exact .inr hy)]
  have partsv : ∀ ps : List (Nat × Operand), (∀ x ∈ ps.map (·.2), st'.eval G x = st.eval G x) → partsV G st' ps = partsV G st ps := by
    intro ps
    induction ps with
    | nil => intro _; rfl
    | cons p ps ih =>
      intro hp
      obtain ⟨i, x⟩ := p
      unfold partsV
      rw [hp x (by simp), ih fun y hy => hp y (by simp at hy ⊢; exact .inr hy)]
  have bnd : ∀ (x : Option Operand) (d n : Nat), (∀ y, x = some y → st'.eval G y = st.eval G y) → optBound G st' x d n = optBound G st x d n := fun x d n hx => by
    cases x with
    | none => rfl
    | some y => simp only [optBound, hx y rfl]
  cases op <;> simp only [quietOp] at hq <;> try cases hq
  all_goals simp only [Op.operands] at he hH
  case move x => simp [vop, vMove, he]
  case assign x => simp [vop, vMove, he]
  case pick c a b => simp only [vop, vPick, he c (by simp), he a (by simp), he b (by simp)]; split <;> rfl
  case build t ps =>
    simp only [vop, vBuild, parts ps.toList fun x hx => he x (by simpa using hx)]
    split
    · split
      · simp [Option.map_map, Function.comp_def]
      · simp only [vBuildC, partsv ps.toList fun x hx => he x (by simpa using hx)]
        split
        · simp [Option.map_map, Function.comp_def]
        · rfl
    · rfl
  case buildSlice t n ps =>
    simp only [vop, vBuildSlice, parts ps.toList fun x hx => he x (by simpa using hx)]
    split
    · split <;> rfl
    · rfl
  case load t x =>
    simp only [vop, vLoad, he x (by simp)]
    split
    · rename_i k off hx
      rw [hH x (by simp) k (by rw [hx]; simp [mentions])]
      split
      · simp [Option.map_map, Function.comp_def]
      · rfl
    · simp [Option.map_map, Function.comp_def]
    · rfl
  case nilCheck x => simp only [vop, vNilCheck, he x (by simp)]; split <;> rfl
  case binOp op t x y u =>
    simp only [vop, vBinN, vNilTest, vBin, he x (by simp), he y (by simp)]
    split
    · split <;> rfl
    · split
      · simp [Option.map_map, Function.comp_def]
      · rfl
  case unOp op t x =>
    simp only [vop, vUn, he x (by simp)]
    split
    · simp [Option.map_map, Function.comp_def]
    · rfl
  case convert src dst x =>
    simp only [vop, vConv, he x (by simp)]
    split
    · simp [Option.map_map, Function.comp_def]
    · rfl
  case lookup t m k ok =>
    simp only [vop, vLookup, he m (by simp), he k (by simp)]
    split
    · rename_i hm _
      rw [hH m (by simp) _ (by rw [hm]; simp [mentions])]
      split
      · simp [Option.map_map, Function.comp_def]
      · rfl
    · rfl
  case extract x i =>
    simp only [vop, vExtract, he x (by simp)]
    split
    · simp [Option.map_map, Function.comp_def]
    · rfl
  case field t x i =>
    simp only [vop, vField, he x (by simp)]
    split
    · simp [Option.map_map, Function.comp_def]
    · rfl
  case index t x i =>
    simp only [vop, vIndex, he x (by simp), he i (by simp)]
    split
    · simp [Option.map_bind, Option.map_map, Function.comp_def]
    · simp [Option.map_bind, Option.map_map, Function.comp_def]
    · rfl
  case indexAddr t x i =>
    simp only [vop, vIndexAddr, he x (by simp), he i (by simp)]
    split
    · rw [Option.map_bind]
      congr 1
      funext j
      simp only [Function.comp]
      rw [Option.map_bind]
      congr 1
      funext cs
      simp only [Function.comp]
      split <;> rfl
    · split
      · rfl
      · simp [Option.map_map, Function.comp_def]
    · split
      · rfl
      · simp [Option.map_map, Function.comp_def]
    · rfl
  case fieldAddr t x i =>
    simp only [vop, vFieldAddr, he x (by simp)]
    split
    · split
      · rfl
      · split <;> rfl
    · rfl
  case slice t x lo hi mx =>
    have hlo : ∀ y, lo = some y → st'.eval G y = st.eval G y := fun y hy => he y (by simp [hy])
    have hhi : ∀ y, hi = some y → st'.eval G y = st.eval G y := fun y hy => he y (by simp [hy])
    have hmx : ∀ y, mx = some y → st'.eval G y = st.eval G y := fun y hy => he y (by simp [hy])
    simp only [vop, vSlice, he x (by simp), bnd lo _ _ hlo, bnd hi _ _ hhi]
    split
    · simp [Option.map_bind, Option.map_map, Function.comp_def]
    · split
      · simp [Option.map_bind, Option.map_map, Function.comp_def]
      · rfl
    · split
      · simp [Option.map_bind, Option.map_map, Function.comp_def]
      · rfl
    · rw [bnd (some _) _ _ fun y hy => hmx y hy]; split <;> rfl
    · rw [bnd (some _) _ _ fun y hy => hmx y hy]; split <;> rfl
    · rfl
  case call c =>
    obtain ⟨callee, args, ts⟩ := c
    cases callee with
    | value f => simp [vop]
    | invoke r m => simp at hq
    | builtin b =>
      have mem : ∀ {x : Operand} {l : List Operand}, args.toList = l → x ∈ l → st'.eval G x = st.eval G x := fun hl hx => he _ (by simp only [Op.operands, Call.operands]; rw [← Array.mem_toList_iff]; simp [hl, hx])
      cases b <;> simp only [] at hq <;> try cases hq
      · simp only [vop, vBuiltin]
        split
        · rename_i x t _ heq _
          have hx : st'.eval G x = st.eval G x := mem heq (by simp)
          have hxm : x ∈ args := by rw [← Array.mem_toList_iff]; simp [heq]
          simp only [vLen, hx]
          split
          · rfl
          · rfl
          · rfl
          · rename_i hx2
            rw [hH x (by simpa [Call.operands] using hxm) _ (by rw [hx2]; simp [mentions])]
            split <;> rfl
          · rfl
        · rename_i h1 _ _; cases h1
        · rename_i h1 _ _; cases h1
        · rename_i h1 _; cases h1
        · rename_i h1 _; cases h1
        · rfl
      · simp only [vop, vBuiltin]
        split
        · rename_i h1 _ _; cases h1
        · rename_i h1 _ _; cases h1
        · rename_i h1 _ _; cases h1
        · rename_i x y _ heq
          have hx : st'.eval G x = st.eval G x := mem heq (by simp)
          have hy : st'.eval G y = st.eval G y := mem heq (by simp)
          simp only [vMax, hx, hy]
          split <;> rfl
        · rename_i h1 _; cases h1
        · rfl
      · simp only [vop, vBuiltin]
        split
        · rename_i h1 _ _; cases h1
        · rename_i h1 _ _; cases h1
        · rename_i h1 _ _; cases h1
        · rename_i h1 _; cases h1
        · rename_i x y _ heq
          have hx : st'.eval G x = st.eval G x := mem heq (by simp)
          have hy : st'.eval G y = st.eval G y := mem heq (by simp)
          simp only [vMin, hx, hy]
          split <;> rfl
        · rfl
theorem vop_same {o : Oper} (hq : quietOp o.op = true) (h : vop P G o st = some out) : out.st = st := by
  have := vop_quiet (P := P) (G := G) (st := st) (st' := st) hq (fun _ _ => rfl) (fun _ _ _ _ => rfl)
  rw [h] at this
  simp at this
  have h2 := congrArg Out.st this
  simpa using h2
theorem finish_H (st : St) (dst : Option Tmp) (d : DV) (act : OA) : (finish st dst d act).H = st.H := by cases dst <;> rfl
theorem eval_finish {dst : Option Tmp} {d : DV} {act : OA} {x : Operand} (h : ∀ t, dst = some t → x ≠ .tmp t) : (finish st dst d act).eval G x = st.eval G x := by
  cases dst with
  | none => rfl
  | some t =>
    cases x with
    | tmp j =>
      have hne : t ≠ j := fun e => h t rfl (e ▸ rfl)
      simp [finish, St.eval, List.getElem?_set_ne hne]
    | _ => rfl
theorem eval_looks {all : Array Oper} {o : Oper} {dst : Option Tmp} {d : DV} {act : OA} (h : ∀ t, dst = some t → t ∉ o.looksAt all) : ∀ x ∈ o.op.operands, (finish st dst d act).eval G x = st.eval G x := fun x hx =>
  eval_finish fun t ht hxt => h t ht (by
    subst hxt
    exact List.mem_append_left _ (List.mem_filterMap.2 ⟨.tmp t, by simpa using hx, rfl⟩))
theorem wantedD_finish {all : Array Oper} {o : Oper} {dst : Option Tmp} {d : DV} {act : OA} (h : ∀ t, dst = some t → t ∉ o.looksAt all) : wantedD o all (finish st dst d act).tmps = wantedD o all st.tmps := by
  cases dst with
  | none => rfl
  | some t =>
    unfold wantedD
    cases hg : o.guard with
    | none => rfl
    | some gw =>
      obtain ⟨g, want⟩ := gw
      have hy : yieldedD all (finish st (some t) d act).tmps g = yieldedD all st.tmps g := by
        unfold yieldedD
        cases ht : (all[g]?).bind (·.dst) with
        | none => rfl
        | some j =>
          have hne : t ≠ j := fun e => h t rfl (by subst e; simp [Oper.looksAt, hg, ht])
          simp [finish, List.getElem?_set_ne hne]
      simp only [hy]
theorem callOf_congr {o : Oper} {st' : St} (h : ∀ x ∈ o.op.operands, st'.eval G x = st.eval G x) : callOf G o st' = callOf G o st := by
  unfold callOf
  split
  · rename_i x args ts hop
    rw [hop] at h
    have hx := h x (by simp [Op.operands, Call.operands])
    have ha : args.toList.map (st'.eval G) = args.toList.map (st.eval G) := List.map_congr_left fun y hy => h y (by simp [Op.operands, Call.operands]; exact .inr (by simpa using hy))
    rw [hx, ha]
  · rfl
theorem callOfH_congr {o : Oper} {st' : St} (h : ∀ x ∈ o.op.operands, st'.eval G x = st.eval G x) : callOfH G o st' = callOfH G o st := by
  unfold callOfH
  split
  · rename_i x args ts hop
    rw [hop] at h
    have hx := h x (by simp [Op.operands, Call.operands])
    have ha : args.toList.map (st'.eval G) = args.toList.map (st.eval G) := List.map_congr_left fun y hy => h y (by simp [Op.operands, Call.operands]; exact .inr (by simpa using hy))
    rw [hx, ha]
  · rfl
theorem noOwn_drop (ks : List Nat) (t : Tmp) (own : List (TypeId × List Loc)) : noOwnAt ks (dropLoc (.t t) own) = noOwnAt ks own := by
  unfold noOwnAt dropLoc
  rw [List.all_map]
  congr 1
  funext c
  simp only [Function.comp]
  induction c.2 with
  | nil => rfl
  | cons l r ih =>
    by_cases hl : l = .t t
    · subst hl
      rw [List.filter_cons_of_neg (by simp), ih]
      rfl
    · rw [List.filter_cons_of_pos (by simp [hl]), List.all_cons, List.all_cons, ih]
theorem noOwn_alias (ks : List Nat) (s : Loc) (t : Tmp) (own : List (TypeId × List Loc)) : noOwnAt ks (addAlias s (.t t) own) = noOwnAt ks own := by
  unfold noOwnAt addAlias
  rw [List.all_map]
  congr 1
  funext c
  simp only [Function.comp]
  split
  · rw [List.all_cons]; rfl
  · rfl
theorem noOwn_finish (ks : List Nat) (dst : Option Tmp) (d : DV) (act : OA) : noOwnAt ks (VM.finish st dst d act).own = noOwnAt ks st.own := by
  cases dst with
  | none => rfl
  | some t =>
    simp only [VM.finish]
    cases act with
    | no => exact noOwn_drop ks t _
    | al l =>
      simp only [ownAct]
      split
      · rfl
      · rw [noOwn_alias, noOwn_drop]
    | fresh e =>
      simp only [ownAct]
      have := noOwn_drop ks t st.own
      unfold noOwnAt at this ⊢
      rw [List.all_cons, this]
      rfl
theorem vcall_of {o : Oper} {x : FuncId × List DV} (h : callOfH G o st = some x) : isVCall o = true := by
  unfold callOfH at h
  unfold isVCall
  split at h
  · rename_i hop; rw [hop]
  · cases h
theorem QY.to {all : Array Oper} {o : Oper} {d : DV} {ac : OA} {st' : St} (h : QY P G all o d ac st) (hq : quietOp o.op = true) (hw : wantedD o all st'.tmps = wantedD o all st.tmps) (he : ∀ x ∈ o.op.operands, st'.eval G x = st.eval G x)
    (hH : ∀ x ∈ o.op.operands, ∀ k, mentions k (st.eval G x) = true → getKey k st'.H = getKey k st.H)
    (hk : isVCall o = true → ∀ k o, getKey k st.H = some o → getKey k st'.H = some o) (hn : isVCall o = true → ∀ ks, (ks.all fun k => (getKey k st.H).isSome) = true → noOwnAt ks st.own = true → noOwnAt ks st'.own = true) : QY P G all o d ac st' := by
  unfold QY at h ⊢
  rw [hw, callOf_congr he, callOfH_congr he, vop_quiet hq he hH]
  rcases h with ⟨h0, h | ⟨h1, h2, h3⟩ | ⟨h1, f, as, ks, h2, h3, h4, h5, h6, h7, h8⟩⟩ | h
  · exact .inl ⟨h0, .inl h⟩
  · exact .inl ⟨h0, .inr (.inl ⟨h1, h2, by rw [h3]; rfl⟩)⟩
  · have hv := vcall_of h2
    have hks : ∀ k ∈ ks, getKey k st'.H = getKey k st.H := fun k hkk => by
      obtain ⟨ob, hob⟩ := Option.isSome_iff_exists.1 (List.all_eq_true.1 h6 k hkk)
      rw [hob]; exact hk hv k ob hob
    refine .inl ⟨h0, .inr (.inr ⟨h1, f, as, ks, h2, h3, fun s hs hno => h4 s (fun k hkk => (hs k hkk).trans (hks k hkk)) hno, hn hv ks h6 h5, List.all_eq_true.2 fun k hkk => ?_, h7, h8⟩)⟩
    rw [hks k hkk]; exact List.all_eq_true.1 h6 k hkk
  · exact .inr h
theorem QY.finish {all : Array Oper} {o : Oper} {d x : DV} {ac : OA} {dst : Option Tmp} {act : OA} (hq : quietOp o.op = true) (h : ∀ t, dst = some t → t ∉ o.looksAt all) : QY P G all o d ac (VM.finish st dst x act) ↔ QY P G all o d ac st := by
  have he := eval_looks (G := G) (st := st) (d := x) (act := act) h
  refine ⟨fun hy => QY.to hy hq (wantedD_finish h).symm (fun y hy => (he y hy).symm) (fun _ _ _ _ => by rw [finish_H]) (fun _ k ob hk => by rw [finish_H] at hk; exact hk) (fun _ ks _ hn => by rw [noOwn_finish] at hn; exact hn),
    fun hy => QY.to hy hq (wantedD_finish h) he (fun _ _ _ _ => by rw [finish_H]) (fun _ k ob hk => by rw [finish_H]; exact hk) (fun _ ks _ hn => by rw [noOwn_finish]; exact hn)⟩
theorem vOne_quiet {all : Array Oper} {o : Oper} {K : St → Prop} (hq : quietOp o.op = true) (hal : aloneO all o = false) : vOne P G true all o K st ↔ ∃ d act, QY P G all o d act st ∧ K (finish st o.dst d (qAct all o act)) := by
  have hact : ∀ d act, actQ true all o d act = qAct all o act := fun d act => by simp [actQ, hq]
  have hno : qAct all o .no = .no := by unfold qAct; split <;> rfl
  have hqn : ∀ a, qAct all o a = if true && !noisy all o then .no else a := fun a => by unfold qAct; cases noisy all o <;> rfl
  unfold vOne QY
  constructor
  · intro h
    split at h
    · rename_i hw
      rw [hw]
      split at h
      · rename_i f ds hc
        rcases h with ⟨r, own, ⟨h1, h2⟩, h4, h3⟩ | ⟨h0, _⟩
        · exact ⟨r, ownOA own, .inl ⟨rfl, .inl ⟨f, ds, own, hc, h1, h2, h4 rfl, rfl⟩⟩, by rw [hqn]; exact h3⟩
        · simp [strictQ, hal] at h0
      · rename_i hc
        split at h
        · rename_i f as hch
          simp only [hcall, strictQ, hal, Bool.not_false, Bool.true_or, Bool.and_self, if_true] at h
          obtain ⟨d, ks, ⟨h1, h2, h3, h5, h6⟩, h4⟩ := h
          exact ⟨d, .no, .inl ⟨rfl, .inr (.inr ⟨hc, f, as, ks, hch, h1, h2, h3, h5, h6, rfl⟩)⟩, by rw [hno]; exact h4⟩
        · rename_i hch
          split at h
          · rename_i out ho
            rw [hact] at h
            have hs := vop_same hq ho
            obtain ⟨v, act, s2⟩ := out
            simp only at hs; subst hs
            exact ⟨v, act, .inl ⟨rfl, .inr (.inl ⟨hc, hch, ho⟩)⟩, h⟩
          · cases h
    · rename_i hw
      exact ⟨.tup [], .no, .inr ⟨hw, rfl, rfl⟩, by rw [hno]; exact h⟩
    · cases h
  · rintro ⟨d, act, (⟨hw, ⟨f, ds, own, hc, h1, h2, h4, rfl⟩ | ⟨hc, hch, ho⟩ | ⟨hc, f, as, ks, hch, h1, h2, h3, h5, h6, rfl⟩⟩ | ⟨hw, rfl, rfl⟩), hk⟩
    · rw [hqn] at hk; rw [hw]; simp only; rw [hc]; exact .inl ⟨d, own, ⟨h1, h2⟩, fun _ => h4, hk⟩
    · rw [hw]; simp only; rw [hc]; simp only; rw [hch]; simp only; rw [ho]; simp only; rw [hact]; exact hk
    · rw [hno] at hk; rw [hw]; simp only; rw [hc]; simp only; rw [hch]
      simp only [hcall, strictQ, hal, Bool.not_false, Bool.true_or, Bool.and_self, if_true]
      exact ⟨d, ks, ⟨h1, h2, h3, h5, h6⟩, hk⟩
    · rw [hno] at hk; rw [hw]; exact hk
/-- What a copy shares lies elsewhere. -/
def ActSpec (all : Array Oper) (o : Oper) (a : OA) : Prop := a = .no ∨ (noisy all o = true ∧ ∃ e, a = .fresh e) ∨ ∃ l i, o.dst = some i ∧ noisy all o = true ∧ l ≠ .t i ∧ (∀ u, u ∉ o.looksAt all → l ≠ .t u) ∧ a = .al l
theorem slAct_cases (v : DV) (a : OA) : slAct v a = .no ∨ slAct v a = a := by
  unfold slAct
  split
  · exact .inr rfl
  · exact .inl rfl
theorem QY.act {all : Array Oper} {o : Oper} {d : DV} {act : OA} (h : QY P G all o d act st) : ActSpec all o (qAct all o act) := by
  unfold qAct
  split
  · rename_i hn
    rcases h with ⟨hw, ⟨f, ds, own, hc, h1, h2, _, rfl⟩ | ⟨hc, hch, ho⟩ | ⟨hc, f, as, ks, hch, h1, h2, h3, _, _, rfl⟩⟩ | ⟨hw, rfl, rfl⟩
    · cases own with
      | none => exact .inl rfl
      | some e => exact .inr (.inl ⟨hn, e, rfl⟩)
    · obtain ⟨dst, op, ty, pos, after, guard⟩ := o
      have hn' := hn
      unfold noisy at hn
      split at hn
      · rename_i j i hg hop hd
        simp only at hg hop hd
        subst hg hop hd
        simp only [Bool.and_eq_true, bne_iff_ne] at hn
        have : act = slAct (st.eval G (.tmp j)) (.al (.t j)) := by
          simp only [vop, vMove, Option.some.injEq, Out.mk.injEq] at ho
          exact ho.2.1.symm
        rcases slAct_cases (st.eval G (.tmp j)) (.al (.t j)) with h1 | h1
        · exact .inl (this.trans h1)
        · exact .inr (.inr ⟨.t j, i, rfl, hn', fun e => hn.1 (by cases e; rfl), fun u hu e => hu (by cases e; simp [Oper.looksAt, Op.operands]), this.trans h1⟩)
      · rename_i j i hg hop hd
        simp only at hg hop hd
        subst hg hop hd
        simp only [Bool.and_eq_true, bne_iff_ne] at hn
        have : act = slAct (st.eval G (.tmp j)) (.al (.t j)) := by
          simp only [vop, vMove, Option.some.injEq, Out.mk.injEq] at ho
          exact ho.2.1.symm
        rcases slAct_cases (st.eval G (.tmp j)) (.al (.t j)) with h1 | h1
        · exact .inl (this.trans h1)
        · exact .inr (.inr ⟨.t j, i, rfl, hn', fun e => hn.1 (by cases e; rfl), fun u hu e => hu (by cases e; simp [Oper.looksAt, Op.operands]), this.trans h1⟩)
      · rename_i ty' j i hg hop hd
        simp only at hg hop hd
        subst hg hop hd
        simp only [vop, vLoad] at ho
        split at ho
        · rename_i k off _
          split at ho
          · rename_i cs hk
            obtain ⟨y, _, he⟩ := Option.map_eq_some_iff.1 ho
            simp only [Out.mk.injEq] at he
            have : act = slAct y (.al (.c k off)) := he.2.1.symm
            rcases slAct_cases y (.al (.c k off)) with h1 | h1
            · exact .inl (this.trans h1)
            · exact .inr (.inr ⟨.c k off, i, rfl, hn', (by simp), (fun u _ => by simp), this.trans h1⟩)
          · cases ho
        · obtain ⟨y, _, he⟩ := Option.map_eq_some_iff.1 ho
          simp only [Out.mk.injEq] at he
          exact .inl he.2.1.symm
        · cases ho
      · rename_i cl x i hg hop hd
        simp only at hg hop hd
        subst hg hop hd
        simp [vop] at ho
      · rename_i t n ps i hg hop hd
        simp only at hg hop hd
        subst hg hop hd
        simp only [vop, vBuildSlice] at ho
        split at ho
        · split at ho
          · simp only [Option.some.injEq, Out.mk.injEq] at ho
            exact .inr (.inl ⟨hn', _, ho.2.1.symm⟩)
          · cases ho
        · cases ho
      · cases hn
    · exact .inl rfl
    · exact .inl rfl
  · exact .inl rfl
theorem dropLoc_comm (x y : Loc) (own : List (TypeId × List Loc)) : dropLoc x (dropLoc y own) = dropLoc y (dropLoc x own) := by
  simp only [dropLoc, List.map_map]
  refine List.map_congr_left fun c _ => ?_
  simp only [Function.comp, List.filter_filter]
  congr 1
  refine List.filter_congr fun l _ => ?_
  rw [Bool.and_comm]
theorem contains_drop {x l : Loc} (h : l ≠ x) (c : List Loc) : (c.filter fun y => decide (y ≠ x)).contains l = c.contains l := by
  rw [Bool.eq_iff_iff]
  simp only [List.contains_iff_mem, List.mem_filter, decide_eq_true_eq]
  exact ⟨fun h => h.1, fun h' => ⟨h', h⟩⟩
theorem alias_drop {s t x : Loc} (h1 : s ≠ x) (h2 : t ≠ x) (own : List (TypeId × List Loc)) : addAlias s t (dropLoc x own) = dropLoc x (addAlias s t own) := by
  simp only [addAlias, dropLoc, List.map_map]
  refine List.map_congr_left fun c _ => ?_
  simp only [Function.comp, contains_drop h1]
  split
  · simp [h2]
  · rfl
/-- A quiet operation's share and a result that owns nothing. -/
theorem own_comm {l : Loc} {t u : Tmp} (h1 : t ≠ u) (h2 : l ≠ .t u) (h3 : l ≠ .t t) (own : List (TypeId × List Loc)) : ownAct (.t u) .no (ownAct (.t t) (.al l) own) = ownAct (.t t) (.al l) (ownAct (.t u) .no own) := by
  have ht : (.t t : Loc) ≠ .t u := fun e => h1 (by cases e; rfl)
  simp only [ownAct]
  rw [if_neg h3, if_neg h3, ← alias_drop h2 ht, dropLoc_comm]
theorem fresh_comm {e : TypeId} {t u : Tmp} (h1 : t ≠ u) (own : List (TypeId × List Loc)) : ownAct (.t u) .no (ownAct (.t t) (.fresh e) own) = ownAct (.t t) (.fresh e) (ownAct (.t u) .no own) := by
  have ht : (.t t : Loc) ≠ .t u := fun e => h1 (by cases e; rfl)
  simp only [ownAct]
  rw [dropLoc_comm (.t t)]
  simp [dropLoc, ht]
theorem finish_comm {all : Array Oper} {x y : Oper} {d e : DV} {ax ay : OA} (h : ∀ t, x.dst = some t → y.dst ≠ some t) (hx : ∀ t, x.dst = some t → t ∉ y.looksAt all) (hy : ∀ t, y.dst = some t → t ∉ x.looksAt all) (hn : (noisy all x && noisy all y) = false)
    (sx : ActSpec all x ax) (sy : ActSpec all y ay) :
    finish (finish st x.dst d ax) y.dst e ay = finish (finish st y.dst e ay) x.dst d ax := by
  cases hxd : x.dst with
  | none => cases y.dst <;> rfl
  | some t =>
    cases hyd : y.dst with
    | none => rfl
    | some u =>
      have hne : t ≠ u := fun he => h t hxd (he ▸ hyd)
      simp only [finish]
      rw [List.set_comm _ _ hne]
      congr 1
      rcases sx with rfl | ⟨q2, e, rfl⟩ | ⟨l, i, q1, q2, q3, q4, rfl⟩
      · rcases sy with rfl | ⟨q2, e, rfl⟩ | ⟨l, i, q1, q2, q3, q4, rfl⟩
        · exact dropLoc_comm _ _ _
        · exact (fresh_comm (Ne.symm hne) _).symm
        · rw [hyd] at q1; cases q1
          exact (own_comm (Ne.symm hne) (q4 t (hx t hxd)) q3 _).symm
      · rcases sy with rfl | ⟨p2, e', rfl⟩ | ⟨l', i', p1, p2, p3, p4, rfl⟩
        · exact fresh_comm hne _
        · rw [q2, p2] at hn; cases hn
        · rw [q2, p2] at hn; cases hn
      · rw [hxd] at q1; cases q1
        rcases sy with rfl | ⟨p2, e', rfl⟩ | ⟨l', i', p1, p2, p3, p4, rfl⟩
        · exact own_comm hne (q4 u (hy u hyd)) q3 _
        · rw [q2, p2] at hn; cases hn
        · rw [q2, p2] at hn; cases hn

/-- Any order that the region's edges allow. -/
def VAny (P : Program) (G : GT) (ops : Array Oper) (Q : St → Prop) : Nat → Array Bool → St → Prop
  | 0, listed, st => Region.ready .any ops listed = [] ∧ Q st
  | fuel + 1, listed, st => (Region.ready .any ops listed = [] → Q st) ∧ ∀ i ∈ Region.ready .any ops listed, match ops[i]? with
    | none => VAny P G ops Q fuel (listed.setIfInBounds i true) st
    | some o => vOne P G true ops o (VAny P G ops Q fuel (listed.setIfInBounds i true)) st

theorem VAny_ok {ops : Array Oper} {Q : St → Prop} {QQ : Exit → Act → World → Prop} : ∀ (fuel : Nat) (listed : Array Bool) (st : St), VAny P G ops Q fuel listed st → ∀ (base : Base) (R : Nat → Nat → Prop) (μ : Nat → Nat) (a : Act) (w : World), Rel P G base R μ st a w →
    (∀ s a' w' R' μ', Q s → Rel P G base R' μ' s a' w' → Step base R w R' w' → QQ .normal a' w') → wpAny P .any ops QQ fuel listed a w
  | 0, _, st, h, base, R, μ, a, w, hr, hk => ⟨h.1, hk st a w R μ h.2 hr (.refl _ _ _)⟩
  | fuel + 1, listed, st, h, base, R, μ, a, w, hr, hk => by
    refine ⟨fun h0 => hk st a w R μ (h.1 h0) hr (.refl _ _ _), fun i hi => ?_⟩
    have h1 := h.2 i hi
    unfold wpOp
    split
    · rename_i ho
      rw [ho] at h1
      exact VAny_ok fuel _ st h1 base R μ a w hr hk
    · rename_i o ho
      rw [ho] at h1
      exact vOne_ok h1 hr fun s v w' R' μ' h' hr' hs' => VAny_ok fuel _ s h' base R' μ' _ w' hr' fun s a' w2 R2 μ2 q1 q2 q3 => hk s a' w2 R2 μ2 q1 q2 (hs'.trans q3)

/-- What is listed has its forerunners listed. -/
def Closed (ops : Array Oper) (listed : Array Bool) : Prop := ∀ k, listed.getD k false = true → ∀ o, ops[k]? = some o → ∀ e ∈ o.after, Region.binds .any e = true → listed.getD e.on false = true
theorem getD_tf {listed : Array Bool} {i : Nat} (h0 : listed.getD i true = false) (h1 : listed.getD i false = true) : False := by
  rcases Nat.lt_or_ge i listed.size with h' | h'
  · simp [h'] at h0 h1; rw [h0] at h1; cases h1
  · simp [Array.getElem?_eq_none h'] at h1
theorem fold_bit {es : List Edge} {n i : Nat} {rows : List Nat} : ∀ (acc : Nat), (es.foldl (fun acc e => if Region.binds .any e = true ∧ e.on < n then acc ||| ((1 <<< e.on) ||| rows.getD (n - 1 - e.on) 0) else acc) acc).testBit i = true →
    acc.testBit i = true ∨ ∃ e ∈ es, Region.binds .any e = true ∧ e.on < n ∧ (e.on = i ∨ (rows.getD (n - 1 - e.on) 0).testBit i = true) := by
  induction es with
  | nil => intro acc h; exact .inl h
  | cons e es ih =>
    intro acc h
    simp only [List.foldl_cons] at h
    rcases ih _ h with h | ⟨e', h1, h2⟩
    · split at h
      · rename_i hb
        rw [Nat.testBit_or, Bool.or_eq_true, Nat.testBit_or, Bool.or_eq_true] at h
        rcases h with h | h | h
        · exact .inl h
        · rw [Nat.testBit_shiftLeft] at h
          simp only [Bool.and_eq_true, decide_eq_true_eq] at h
          have : i - e.on = 0 := by
            have h2 := h.2
            cases hx : i - e.on with
            | zero => rfl
            | succ m => rw [hx, Nat.testBit_succ] at h2; simp at h2
          exact .inr ⟨e, .head _, hb.1, hb.2, .inl (by omega)⟩
        · exact .inr ⟨e, .head _, hb.1, hb.2, .inr h⟩
      · exact .inl h
    · exact .inr ⟨e', .tail _ h1, h2⟩
theorem rowsOf_eq (o : Oper) (r : List Oper) (n : Nat) (rows : List Nat) : rowsOf (o :: r) n rows = rowsOf r (n + 1) ((o.after.toList.foldl (fun acc e => if Region.binds .any e = true ∧ e.on < n then acc ||| ((1 <<< e.on) ||| rows.getD (n - 1 - e.on) 0) else acc) 0) :: rows) := by
  rw [rowsOf]
  generalize (o.after.toList.foldl (fun acc e => if Region.binds .any e = true ∧ e.on < n then acc ||| ((1 <<< e.on) ||| rows.getD (n - 1 - e.on) 0) else acc) 0) = m
  cases m <;> rfl
/-- What a bit of a row says. -/
theorem rowsOf_bit {ops : Array Oper} {i : Nat} : ∀ (l : List Oper) (n : Nat) (rows : List Nat), rows.length = n → (∀ j, l[j]? = ops[n + j]?) →
    (∀ k, k < n → (rows.getD (n - 1 - k) 0).testBit i = true → ∃ o, ops[k]? = some o ∧ ∃ e ∈ o.after, Region.binds .any e = true ∧ (e.on = i ∨ (e.on < k ∧ (rows.getD (n - 1 - e.on) 0).testBit i = true))) →
    ∀ k, k < n + l.length → ((rowsOf l n rows).getD (n + l.length - 1 - k) 0).testBit i = true → ∃ o, ops[k]? = some o ∧ ∃ e ∈ o.after, Region.binds .any e = true ∧ (e.on = i ∨ (e.on < k ∧ ((rowsOf l n rows).getD (n + l.length - 1 - e.on) 0).testBit i = true))
  | [], n, rows, _, _, h => h
  | o :: r, n, rows, hlen, hl, h => by
    rw [rowsOf_eq]
    generalize hrow : (o.after.toList.foldl (fun acc e => if Region.binds .any e = true ∧ e.on < n then acc ||| ((1 <<< e.on) ||| rows.getD (n - 1 - e.on) 0) else acc) 0) = row
    have hlc : n + (o :: r).length = (n + 1) + r.length := by simp; omega
    rw [hlc]
    have old : ∀ m, m < n → (row :: rows).getD (n + 1 - 1 - m) 0 = rows.getD (n - 1 - m) 0 := fun m hm => by
      have : n + 1 - 1 - m = (n - 1 - m) + 1 := by omega
      rw [this]; rfl
    refine rowsOf_bit r (n + 1) (row :: rows) (by simp [hlen]) (fun j => by have := hl (j + 1); simpa [Nat.add_assoc, Nat.add_comm 1 j] using this) fun k hk hb => ?_
    by_cases hkn : k < n
    · rw [old k hkn] at hb
      obtain ⟨o1, h1, e, h2, h3, h4⟩ := h k hkn hb
      refine ⟨o1, h1, e, h2, h3, ?_⟩
      rcases h4 with h4 | ⟨h4, h5⟩
      · exact .inl h4
      · exact .inr ⟨h4, by rw [old e.on (by omega)]; exact h5⟩
    · have : k = n := by omega
      subst this
      have h0 : k + 1 - 1 - k = 0 := by omega
      rw [h0] at hb
      simp only [List.getD_cons_zero] at hb
      rw [← hrow] at hb
      rcases fold_bit 0 hb with hz | ⟨e, h1, h2, h3, h4⟩
      · simp at hz
      · refine ⟨o, by simpa using (hl 0).symm, e, by simpa using h1, h2, ?_⟩
        rcases h4 with h4 | h4
        · exact .inl h4
        · exact .inr ⟨h3, by rw [old e.on h3]; exact h4⟩
theorem reach_listed {ops : Array Oper} {listed : Array Bool} {i : Nat} (hc : Closed ops listed) (hi : listed.getD i true = false) (n : Nat) : ∀ (k : Nat), (∀ o, ops[k]? = some o → ∀ e ∈ o.after, Region.binds .any e = true → listed.getD e.on false = true) → reachB ops n k i = false := by
  intro k
  induction k using Nat.strongRecOn with
  | _ k ih =>
    intro hk
    cases hb : reachB ops n k i with
    | false => rfl
    | true =>
      unfold reachB at hb
      rw [Bool.and_eq_true, decide_eq_true_eq] at hb
      obtain ⟨hlt, hb⟩ := hb
      have hsz : 0 + ops.toList.length = ops.size := by simp
      obtain ⟨o, ho, e, he, hbd, h⟩ := rowsOf_bit (ops := ops) ops.toList 0 [] rfl (by simp) (fun k hk => absurd hk (Nat.not_lt_zero _)) k (by omega) (by rw [hsz]; exact hb)
      have h1 := hk o ho e he hbd
      rcases h with h | ⟨h2, h3⟩
      · exact (getD_tf hi (h ▸ h1)).elim
      · have := ih e.on h2 fun o' ho' => hc e.on h1 o' ho'
        unfold reachB at this
        rw [hsz] at h3
        rw [h3, Bool.and_true, decide_eq_false_iff_not] at this
        exact absurd (Nat.lt_trans h2 hlt) this
theorem Closed.set {ops : Array Oper} {listed : Array Bool} {j : Nat} (hc : Closed ops listed) (hj : j ∈ Region.ready .any ops listed) : Closed ops (listed.setIfInBounds j true) := by
  intro k hk o ho e he hb
  by_cases hjk : j = k
  · subst hjk
    obtain ⟨_, o', ho', hall⟩ := mem_ready.1 hj
    rw [ho] at ho'; cases ho'
    exact getD_set_true (hall e he hb)
  · rw [getD_set_ne false hjk] at hk
    exact getD_set_true (hc k hk o ho e he hb)

theorem alone_spec {ops : Array Oper} {o : Oper} {k j : Nat} (h : aloneO ops o = true) (hk : ops[k]? = some o) (hj : j < ops.size) (hne : j ≠ k) : reachB ops ops.size j k = true ∨ reachB ops ops.size k j = true := by
  have h1 := List.all_eq_true.1 h k (List.mem_range.2 (Array.getElem?_eq_some_iff.1 hk).1)
  simp only [hk, bne_self_eq_false, Bool.false_or] at h1
  have h2 := List.all_eq_true.1 h1 j (List.mem_range.2 hj)
  simpa [hne, or_assoc] using h2
theorem keyless_free {k : Nat} {d : DV} (h : keyless d = true) : mentions k d = false := by cases d <;> first | rfl | cases h
theorem ofConst_free (k : Nat) (v : Value) : mentions k (ofConst v) = false := by
  unfold ofConst
  split
  · split <;> rfl
  · split <;> rfl
theorem keyFree_spec {k : Nat} (h : keyFree k st = true) : (∀ v ∈ st.tmps, mentions k v = false) ∧ (∀ p ∈ st.H, p.1 ≠ k ∧ objFree k p.2 = true) ∧ (∀ c ∈ st.own, ∀ l ∈ c.2, l.ofKey k = false) := by
  unfold keyFree at h
  simp only [Bool.and_eq_true, List.all_eq_true, bne_iff_ne, ne_eq, Bool.not_eq_true'] at h
  exact ⟨h.1.1, h.1.2, h.2⟩
theorem keyFree_mk {k : Nat} (h1 : ∀ v ∈ st.tmps, mentions k v = false) (h2 : ∀ p ∈ st.H, p.1 ≠ k ∧ objFree k p.2 = true) (h3 : ∀ c ∈ st.own, ∀ l ∈ c.2, l.ofKey k = false) : keyFree k st = true := by
  unfold keyFree
  simp only [Bool.and_eq_true, List.all_eq_true, bne_iff_ne, ne_eq, Bool.not_eq_true']
  exact ⟨⟨h1, h2⟩, h3⟩
theorem eval_free {k : Nat} (h : keyFree k st = true) (x : Operand) : mentions k (st.eval G x) = false := by
  cases x with
  | tmp t =>
    simp only [St.eval, List.getD]
    cases ht : st.tmps[t]? with
    | none => rfl
    | some v => exact (keyFree_spec h).1 v (List.mem_of_getElem? ht)
  | const v => exact ofConst_free k v
  | global g =>
    simp only [St.eval]
    split <;> rfl
  | func f => rfl
theorem getKey_memH {k : Nat} {o : AObj} : ∀ {H : List (Nat × AObj)}, getKey k H = some o → (k, o) ∈ H
  | [], h => by simp [getKey] at h
  | (k', o') :: r, h => by
    unfold getKey at h
    split at h
    · rename_i he; cases h; subst he; exact .head _
    · exact .tail _ (getKey_memH h)
theorem keyFree_none {k : Nat} (h : keyFree k st = true) : getKey k st.H = none := by
  cases hk : getKey k st.H with
  | none => rfl
  | some o => exact absurd rfl ((keyFree_spec h).2.1 _ (getKey_memH hk)).1
theorem obj_free {k k' : Nat} {cs : List DV} (h : keyFree k st = true) (hk : getKey k' st.H = some (.cells cs)) : ∀ c ∈ cs, mentions k c = false := fun c hc => by
  have := ((keyFree_spec h).2.1 _ (getKey_memH hk)).2
  simp only [objFree, List.all_eq_true, Bool.not_eq_true'] at this
  exact this c hc
theorem takeV_free {k : Nat} {t : TypeId} {cs : List DV} {y : DV} (hc : ∀ c ∈ cs, mentions k c = false) (h : takeV P t cs = some y) : mentions k y = false := by
  unfold takeV at h
  split at h
  · split at h
    · split at h
      · rcases takeA_cases h with ⟨ds, _, rfl⟩ | ⟨_, rfl⟩
        · rfl
        · exact mentionsAny_of' fun c hc' => hc c (List.mem_of_mem_take hc')
      · cases h
    · exact hc y (List.mem_of_head? h)
  · cases h
where
  mentionsAny_of' {k : Nat} : ∀ {cs : List DV}, (∀ c ∈ cs, mentions k c = false) → mentionsAny k cs = false
    | [], _ => rfl
    | c :: r, h => by
      simp only [mentionsAny, h c (.head _), mentionsAny_of' fun x hx => h x (.tail _ hx), Bool.or_false]
theorem mentionsAny_of {k : Nat} : ∀ {cs : List DV}, (∀ c ∈ cs, mentions k c = false) → mentionsAny k cs = false
  | [], _ => rfl
  | c :: r, h => by
    simp only [mentionsAny, h c (.head _), mentionsAny_of fun x hx => h x (.tail _ hx), Bool.or_false]
theorem vcells_free {k : Nat} {d : DV} {cs : List DV} (h : mentions k d = false) (hc : vcells d = some cs) : ∀ c ∈ cs, mentions k c = false := by
  cases d with
  | d y => cases hc; intro c hc; obtain ⟨z, _, rfl⟩ := List.mem_map.1 hc; rfl
  | ag cs' =>
    obtain ⟨_, rfl⟩ := vcells_ag hc
    intro c hc
    obtain ⟨i, hi⟩ := List.getElem?_of_mem hc
    exact mentionsAny_false (by simpa [mentions] using h) i c hi
  | undef => cases hc
  | it _ => cases hc
  | tup _ => cases hc
  | nilp _ => cases hc
  | _ => cases hc; intro c hc; simp only [List.mem_singleton] at hc; subst hc; exact h
theorem partsV_free {k : Nat} (h : keyFree k st = true) : ∀ {l : List (Nat × Operand)} {ps : List (Nat × List DV)}, partsV G st l = some ps → ∀ p ∈ ps, ∀ c ∈ p.2, mentions k c = false
  | [], ps, hp => by simp [partsV] at hp; subst hp; simp
  | (i, x) :: l, ps, hp => by
    simp only [partsV] at hp
    split at hp
    · rename_i y ds hy hds
      simp at hp; subst hp
      intro p hpm
      rcases List.mem_cons.1 hpm with rfl | hpm
      · exact vcells_free (eval_free h x) hy
      · exact partsV_free h hds p hpm
    · cases hp
theorem over_free {k : Nat} {cs ys : List DV} {off : Nat} (h1 : ∀ c ∈ cs, mentions k c = false) (h2 : ∀ c ∈ ys, mentions k c = false) : ∀ c ∈ overwrite cs off ys, mentions k c = false := fun c hc => by
  unfold overwrite at hc
  simp only [List.mem_append] at hc
  rcases hc with (hc | hc) | hc
  · exact h1 c (List.mem_of_mem_take hc)
  · exact h2 c hc
  · exact h1 c (List.mem_of_mem_drop hc)
theorem fillV_free {k : Nat} {t : TypeId} : ∀ {ps : List (Nat × List DV)} {z r : List DV}, (∀ c ∈ z, mentions k c = false) → (∀ p ∈ ps, ∀ c ∈ p.2, mentions k c = false) → fillV P t z ps = some r → ∀ c ∈ r, mentions k c = false
  | [], z, r, hz, _, h => by simp [fillV] at h; subst h; exact hz
  | (i, v) :: ps, z, r, hz, hp, h => by
    simp only [fillV] at h
    split at h
    · cases h
    · split at h
      · exact fillV_free (over_free hz (hp _ (.head _))) (fun p hpm => hp p (.tail _ hpm)) h
      · cases h
theorem cellOf_free (k : Nat) (v : Value) : mentions k (cellOf v) = false := by
  unfold cellOf
  split <;> rfl
theorem cellN_free (t : TypeId) (k : Nat) (v : Value) : mentions k (cellN t v) = false := by
  unfold cellN
  split
  · rfl
  · split <;> rfl
theorem zeroO_free {k : Nat} {t : TypeId} {z : List DV} (h : zeroO P t = some z) : ∀ c ∈ z, mentions k c = false := by
  unfold zeroO at h
  obtain ⟨v, _, h2⟩ := Option.bind_eq_some_iff.1 h
  split at h2
  · cases h2; intro c hc; obtain ⟨y, _, rfl⟩ := List.mem_map.1 hc; exact cellOf_free k y
  · cases h2
theorem zeroC_free {k : Nat} {t : TypeId} {z : List DV} (h : zeroC P t = some z) : ∀ c ∈ z, mentions k c = false := by
  unfold zeroC at h
  obtain ⟨v, _, rfl⟩ := Option.map_eq_some_iff.1 h
  intro c hc
  obtain ⟨y, _, rfl⟩ := List.mem_map.1 hc
  exact cellN_free _ k y
/-- A quiet operation's result names no object that the state does not name. -/
theorem vop_free {o : Oper} (hq : quietOp o.op = true) {k : Nat} (hf : keyFree k st = true) (h : vop P G o st = some out) : mentions k out.v = false := by
  obtain ⟨dst, op, ty, pos, after, guard⟩ := o
  have he : ∀ x : Operand, mentions k (st.eval G x) = false := eval_free hf
  cases op <;> simp only [quietOp] at hq <;> try cases hq
  case move x => simp only [vop, vMove, Option.some.injEq] at h; subst h; exact he x
  case assign x => simp only [vop, vMove, Option.some.injEq] at h; subst h; exact he x
  case pick c a b =>
    simp only [vop, vPick] at h
    split at h
    · simp only [Option.some.injEq] at h; subst h
      simp only
      split
      · exact he a
      · exact he b
    · cases h
  case build t ps =>
    simp only [vop, vBuild] at h
    split at h
    · split at h
      · obtain ⟨c, _, rfl⟩ := Option.map_eq_some_iff.1 h; rfl
      · unfold vBuildC at h
        split at h
        · rename_i z qs hz hps
          obtain ⟨cs, hcs, rfl⟩ := Option.map_eq_some_iff.1 h
          exact mentionsAny_of (fillV_free (zeroO_free hz) (partsV_free hf hps) hcs)
        · cases h
    · cases h
  case buildSlice t n ps =>
    simp only [vop, vBuildSlice] at h
    split at h
    · split at h
      · simp only [Option.some.injEq] at h; subst h; rfl
      · cases h
    · cases h
  case load t x =>
    simp only [vop, vLoad] at h
    split at h
    · split at h
      · rename_i cs hk
        obtain ⟨y, hy, rfl⟩ := Option.map_eq_some_iff.1 h
        exact takeV_free (fun c hc => obj_free hf hk c (List.mem_of_mem_drop hc)) hy
      · cases h
    · obtain ⟨y, _, rfl⟩ := Option.map_eq_some_iff.1 h; rfl
    · cases h
  case nilCheck x =>
    have := he x
    simp only [vop, vNilCheck] at h
    split at h <;> first | (cases h; done) | (rename_i hx; rw [hx] at this; simp only [Option.some.injEq] at h; subst h; exact this)
  case binOp op t x y u =>
    simp only [vop, vBinN, vNilTest, vBin] at h
    split at h
    · split at h <;> first | (cases h; done) | (simp only [Option.some.injEq] at h; subst h; simp only; first | rfl | (split <;> rfl))
    · split at h
      · obtain ⟨c, _, rfl⟩ := Option.map_eq_some_iff.1 h; rfl
      · cases h
  case unOp op t x =>
    simp only [vop, vUn] at h
    split at h
    · obtain ⟨c, _, rfl⟩ := Option.map_eq_some_iff.1 h; rfl
    · cases h
  case convert src dst x =>
    simp only [vop, vConv] at h
    split at h
    · obtain ⟨c, _, rfl⟩ := Option.map_eq_some_iff.1 h; rfl
    · cases h
  case lookup t m k ok =>
    simp only [vop, vLookup] at h
    split at h
    · split at h
      · obtain ⟨c, _, rfl⟩ := Option.map_eq_some_iff.1 h
        simp only
        split <;> rfl
      · cases h
    · cases h
  case extract x i =>
    simp only [vop, vExtract] at h
    split at h
    · obtain ⟨c, _, rfl⟩ := Option.map_eq_some_iff.1 h; rfl
    · cases h
  case field t x i =>
    simp only [vop, vField] at h
    split at h
    · obtain ⟨c, _, rfl⟩ := Option.map_eq_some_iff.1 h; rfl
    · cases h
  case index t x i =>
    simp only [vop, vIndex] at h
    split at h
    · obtain ⟨j, _, h⟩ := Option.bind_eq_some_iff.1 h
      obtain ⟨c, _, rfl⟩ := Option.map_eq_some_iff.1 h; rfl
    · obtain ⟨j, _, h⟩ := Option.bind_eq_some_iff.1 h
      obtain ⟨c, _, rfl⟩ := Option.map_eq_some_iff.1 h; rfl
    · cases h
  case indexAddr t x i =>
    have hx := he x
    simp only [vop, vIndexAddr] at h
    split at h
    · obtain ⟨j, _, h⟩ := Option.bind_eq_some_iff.1 h
      obtain ⟨c, _, h⟩ := Option.bind_eq_some_iff.1 h
      split at h
      · simp only [Option.some.injEq] at h; subst h; rfl
      · cases h
    · rename_i hxe _
      split at h
      · cases h
      · obtain ⟨j, _, rfl⟩ := Option.map_eq_some_iff.1 h
        rw [hxe] at hx; exact hx
    · split at h
      · cases h
      · obtain ⟨j, _, rfl⟩ := Option.map_eq_some_iff.1 h; rfl
    · cases h
  case fieldAddr t x i =>
    have hx := he x
    simp only [vop, vFieldAddr] at h
    split at h
    · split at h
      · cases h
      · split at h
        · rename_i hxe
          simp only [Option.some.injEq] at h; subst h
          rw [hxe] at hx; exact hx
        · simp only [Option.some.injEq] at h; subst h; rfl
        · cases h
    · cases h
  case slice t x lo hi mx =>
    simp only [vop, vSlice] at h
    split at h
    · obtain ⟨j, _, h⟩ := Option.bind_eq_some_iff.1 h
      obtain ⟨c, _, rfl⟩ := Option.map_eq_some_iff.1 h; rfl
    · split at h
      · obtain ⟨j, _, h⟩ := Option.bind_eq_some_iff.1 h
        obtain ⟨c, _, rfl⟩ := Option.map_eq_some_iff.1 h; rfl
      · cases h
    · split at h
      · obtain ⟨j, _, h⟩ := Option.bind_eq_some_iff.1 h
        obtain ⟨c, _, rfl⟩ := Option.map_eq_some_iff.1 h; rfl
      · cases h
    · split at h
      · simp only [Option.some.injEq] at h; subst h; rfl
      · cases h
    · split at h
      · simp only [Option.some.injEq] at h; subst h; rfl
      · cases h
    · cases h
  case call c =>
    obtain ⟨callee, args, ts⟩ := c
    cases callee with
    | value f => simp [vop] at h
    | invoke r m => simp at hq
    | builtin b =>
      simp only [vop, vBuiltin] at h
      split at h
      · simp only [vLen] at h
        split at h
        · simp only [Option.some.injEq] at h; subst h; rfl
        · simp only [Option.some.injEq] at h; subst h; rfl
        · simp only [Option.some.injEq] at h; subst h; rfl
        · split at h
          · simp only [Option.some.injEq] at h; subst h; rfl
          · cases h
        · cases h
      · simp at hq
      · simp at hq
      · simp only [vMax] at h
        split at h
        · simp only [Option.some.injEq] at h; subst h; rfl
        · cases h
      · simp only [vMin] at h
        split at h
        · simp only [Option.some.injEq] at h; subst h; rfl
        · cases h
      · cases h
theorem ofKey_t (k : Nat) (i : Tmp) : (Loc.t i).ofKey k = false := rfl
theorem keyFree_finish {k : Nat} {dst : Option Tmp} {v : DV} {act : OA} (h : keyFree k st = true) (hv : mentions k v = false) : keyFree k (finish st dst v act) = true := by
  obtain ⟨h1, h2, h3⟩ := keyFree_spec h
  cases dst with
  | none => exact h
  | some d =>
    refine keyFree_mk (fun u hu => ?_) h2 (fun c hc l hl => ?_)
    · rcases List.mem_or_eq_of_mem_set hu with hu | rfl
      · exact h1 u hu
      · exact hv
    · have drop : ∀ c ∈ dropLoc (.t d) st.own, ∀ l ∈ c.2, l.ofKey k = false := fun c hc l hl => by
        obtain ⟨c0, hc0, rfl⟩ := List.mem_map.1 hc
        exact h3 c0 hc0 l (List.mem_filter.1 hl).1
      simp only [finish] at hc
      cases act with
      | no => exact drop c hc l hl
      | al l0 =>
        simp only [ownAct] at hc
        split at hc
        · exact h3 c hc l hl
        · unfold addAlias at hc
          obtain ⟨c0, hc0, rfl⟩ := List.mem_map.1 hc
          split at hl
          · rcases List.mem_cons.1 hl with rfl | hl
            · rfl
            · exact drop c0 hc0 l hl
          · exact drop c0 hc0 l hl
      | fresh e =>
        simp only [ownAct] at hc
        rcases List.mem_cons.1 hc with rfl | hc
        · simp only [List.mem_singleton] at hl; subst hl; rfl
        · exact drop c hc l hl
theorem QY.free {all : Array Oper} {o : Oper} {d : DV} {act : OA} {k : Nat} (hq : quietOp o.op = true) (h : QY P G all o d act st) (hf : keyFree k st = true) : mentions k d = false := by
  rcases h with ⟨_, ⟨f, ds, own, _, _, _, hk, _⟩ | ⟨_, _, ho⟩ | ⟨_, f, as, ks, _, _, _, _, _, hk, _⟩⟩ | ⟨_, rfl, _⟩
  · exact keyless_free hk
  · exact vop_free hq hf ho
  · exact keyless_free hk
  · rfl
theorem semi_of {o : Oper} (h : (isApp o || isNew o) = true) : semi o = true := by unfold semi; rw [h]; rfl
theorem semi_call {o : Oper} (h : semi o = true) : callOf G o st = none ∧ callOfH G o st = none ∧ quietOp o.op = false ∧ isVCall o = false := by
  obtain ⟨dst, op, ty, pos, after, guard⟩ := o
  cases op with
  | call c =>
    obtain ⟨callee, args, ts⟩ := c
    cases callee with
    | builtin b => cases b <;> first | exact ⟨rfl, rfl, rfl, rfl⟩ | (simp [semi, isApp, isNew, isSt] at h)
    | _ => simp [semi, isApp, isNew, isSt] at h
  | alloc e => exact ⟨rfl, rfl, rfl, rfl⟩
  | store _ _ _ => exact ⟨rfl, rfl, rfl, rfl⟩
  | _ => simp [semi, isApp, isNew, isSt] at h
/-- What an operation does whose order may be open. -/
def Eff (P : Program) (G : GT) (all : Array Oper) (o : Oper) (st s : St) : Prop :=
  (quietOp o.op = true ∧ ∃ d act, QY P G all o d act st ∧ s = finish st o.dst d (qAct all o act)) ∨
  (semi o = true ∧ ((wantedD o all st.tmps = some true ∧ ∃ out, vop P G o st = some out ∧ s = finish out.st o.dst out.v out.act) ∨ (wantedD o all st.tmps = some false ∧ s = finish st o.dst (.tup []) .no)))
theorem vOne_eff {all : Array Oper} {o : Oper} {K : St → Prop} (h : (quietOp o.op = true ∧ aloneO all o = false) ∨ semi o = true) : vOne P G true all o K st ↔ ∃ s, Eff P G all o st s ∧ K s := by
  rcases h with ⟨hq, hal⟩ | hs
  · rw [vOne_quiet hq hal]
    constructor
    · rintro ⟨d, act, h1, h2⟩; exact ⟨_, .inl ⟨hq, d, act, h1, rfl⟩, h2⟩
    · rintro ⟨s, ⟨_, d, act, h1, rfl⟩ | ⟨hs, _⟩, h2⟩
      · exact ⟨d, act, h1, h2⟩
      · rw [(semi_call (G := G) (st := st) hs).2.2.1] at hq; cases hq
  · obtain ⟨h1, h2, h3, _⟩ := semi_call (G := G) (st := st) hs
    have hact : ∀ d act, actQ true all o d act = act := fun d act => by simp [actQ, h3]
    unfold vOne
    rw [h1, h2]
    simp only
    constructor
    · intro h
      split at h
      · rename_i hw
        split at h
        · rename_i out ho
          rw [hact] at h
          exact ⟨_, .inr ⟨hs, .inl ⟨hw, out, ho, rfl⟩⟩, h⟩
        · cases h
      · rename_i hw
        exact ⟨_, .inr ⟨hs, .inr ⟨hw, rfl⟩⟩, h⟩
      · cases h
    · rintro ⟨s, ⟨hq, _⟩ | ⟨_, ⟨hw, out, ho, rfl⟩ | ⟨hw, rfl⟩⟩, hk⟩
      · rw [h3] at hq; cases hq
      · rw [hw]; simp only; rw [ho]; simp only; rw [hact]; exact hk
      · rw [hw]; exact hk
/-- Two temporaries written, one of them with nothing shared. -/
theorem finish_comm0 {x y : Option Tmp} {d e : DV} {a : OA} (h : ∀ t, x = some t → y ≠ some t) (ha : a = .no ∨ ∃ k, a = .fresh k) : finish (finish st x d .no) y e a = finish (finish st y e a) x d .no := by
  cases x with
  | none => cases y <;> rfl
  | some t =>
    cases y with
    | none => rfl
    | some u =>
      have hne : t ≠ u := fun he => h t rfl (he ▸ rfl)
      simp only [finish]
      rw [List.set_comm _ _ hne]
      congr 1
      rcases ha with rfl | ⟨k, rfl⟩
      · exact dropLoc_comm _ _ _
      · exact (fresh_comm (Ne.symm hne) _).symm
theorem takeOwn_drop {l x : Loc} (h : l ≠ x) : ∀ own : List (TypeId × List Loc), takeOwn l (dropLoc x own) = (takeOwn l own).map fun p => (p.1, dropLoc x p.2)
  | [] => rfl
  | c :: r => by
    have hc := contains_drop h c.2
    have ih := takeOwn_drop h r
    unfold dropLoc at ih ⊢
    simp only [List.map_cons, takeOwn, hc]
    split
    · rfl
    · rw [ih]
      cases takeOwn l r <;> rfl
theorem takeOwn_mem {l : Loc} : ∀ {own : List (TypeId × List Loc)} {e : TypeId} {own' : List (TypeId × List Loc)}, takeOwn l own = some (e, own') → ∀ c ∈ own', c ∈ own
  | c :: r, e, own', h, x, hx => by
    unfold takeOwn at h
    split at h
    · cases h; exact .tail _ hx
    · obtain ⟨p, hp, he⟩ := Option.map_eq_some_iff.1 h
      cases he
      rcases List.mem_cons.1 hx with rfl | hx
      · exact .head _
      · exact .tail _ (takeOwn_mem hp x hx)
theorem app_spec {o : Oper} (h : isApp o = true) (ho : vop P G o st = some out) : (∃ e, out.act = .fresh e) ∧ (∃ es, out.v = .d (.sl es)) ∧ ∃ own', out.st = { st with own := own' } ∧ ∀ c ∈ own', c ∈ st.own := by
  obtain ⟨dst, op, ty, pos, after, guard⟩ := o
  cases op with
  | call c =>
    obtain ⟨callee, args, ts⟩ := c
    cases callee with
    | builtin b =>
      cases b <;> simp [isApp] at h
      simp only [vop, vBuiltin] at ho
      split at ho
      · rename_i h1 _ _; cases h1
      · unfold vAppend at ho
        split at ho
        · split at ho
          · split at ho
            · split at ho
              · simp only [Option.some.injEq] at ho; subst ho
                exact ⟨⟨_, rfl⟩, ⟨_, rfl⟩, st.own, rfl, fun _ h => h⟩
              · cases ho
            · split at ho
              · rename_i e' own' ht
                split at ho
                · simp only [Option.some.injEq] at ho; subst ho
                  exact ⟨⟨_, rfl⟩, ⟨_, rfl⟩, own', rfl, takeOwn_mem ht⟩
                · cases ho
              · cases ho
            · cases ho
          · cases ho
        · cases ho
      · rename_i h1 _ _; cases h1
      · rename_i h1 _; cases h1
      · rename_i h1 _; cases h1
      · cases ho
    | _ => simp [isApp] at h
  | _ => simp [isApp] at h
theorem app_finish {all : Array Oper} {o : Oper} (h : isApp o = true) {dst : Option Tmp} {d : DV} (hl : ∀ t, dst = some t → t ∉ o.looksAt all) : vop P G o (finish st dst d .no) = (vop P G o st).map fun out => ⟨out.v, out.act, finish out.st dst d .no⟩ := by
  have he := eval_looks (G := G) (st := st) (d := d) (act := .no) hl
  obtain ⟨dst0, op, ty, pos, after, guard⟩ := o
  cases op with
  | call c =>
    obtain ⟨callee, args, ts⟩ := c
    cases callee with
    | builtin b =>
      cases b <;> simp [isApp] at h
      have mem : ∀ {x : Operand} {l : List Operand}, args.toList = l → x ∈ l → (finish st dst d .no).eval G x = st.eval G x := fun hl hx => he _ (by simp only [Op.operands, Call.operands]; rw [← Array.mem_toList_iff]; simp [hl, hx])
      simp only [vop, vBuiltin]
      split
      · rename_i h1 _ _; cases h1
      · rename_i s x t' t'' _ heq _
        have hs := mem heq (x := s) (by simp)
        have hx := mem heq (x := x) (by simp)
        simp only [vAppend, hs, hx]
        split
        · split
          · split
            · split
              · rfl
              · rfl
            · rename_i xs i _
              cases dst with
              | none =>
                simp only [finish]
                split
                · split
                  · rfl
                  · rfl
                · rfl
              | some u =>
                have hne : (Loc.t i) ≠ .t u := fun e => hl u rfl (by
                  cases e
                  exact List.mem_append_left _ (List.mem_filterMap.2 ⟨.tmp i, by simp [Op.operands, Call.operands, heq], rfl⟩))
                simp only [finish, ownAct, takeOwn_drop hne]
                cases takeOwn (.t i) st.own with
                | none => rfl
                | some p =>
                  obtain ⟨e', own'⟩ := p
                  simp only [Option.map_some]
                  split
                  · rfl
                  · rfl
            · rfl
          · rfl
        · rfl
      · rename_i h1 _ _; cases h1
      · rename_i h1 _; cases h1
      · rename_i h1 _; cases h1
      · rfl
    | _ => simp [isApp] at h
  | _ => simp [isApp] at h
theorem app_setH {o : Oper} (h : isApp o = true) {H : List (Nat × AObj)} : vop P G o { st with H := H } = (vop P G o st).map fun out => ⟨out.v, out.act, { out.st with H := H }⟩ := by
  obtain ⟨dst0, op, ty, pos, after, guard⟩ := o
  have he : ∀ x : Operand, ({ st with H := H } : St).eval G x = st.eval G x := fun x => by cases x <;> rfl
  cases op with
  | call c =>
    obtain ⟨callee, args, ts⟩ := c
    cases callee with
    | builtin b =>
      cases b <;> simp [isApp] at h
      simp only [vop, vBuiltin]
      split
      · rename_i h1 _ _; cases h1
      · simp only [vAppend, he]
        split
        · split
          · split
            · split <;> rfl
            · cases takeOwn _ st.own with
              | none => rfl
              | some p =>
                obtain ⟨e', own'⟩ := p
                simp only
                split <;> rfl
            · rfl
          · rfl
        · rfl
      · rename_i h1 _ _; cases h1
      · rename_i h1 _; cases h1
      · rename_i h1 _; cases h1
      · rfl
    | _ => simp [isApp] at h
  | _ => simp [isApp] at h
theorem zObj_free {k : Nat} {cs : List DV} (h : ∀ c ∈ cs, mentions k c = false) : objFree k (zObj cs) = true := by
  unfold zObj
  split
  · rfl
  · simp only [objFree, List.all_eq_true, Bool.not_eq_true']
    exact h
theorem new_spec {o : Oper} (h : isNew o = true) : ∃ d, o.dst = some d ∧ ((∃ cs : AObj, (∀ k, objFree k cs = true) ∧ ∀ st : St, vop P G o st = some ⟨.ptr d 0, .no, newObjAt st d cs⟩) ∨ ∀ st : St, vop P G o st = none) := by
  obtain ⟨dst, op, ty, pos, after, guard⟩ := o
  cases op with
  | alloc e =>
    cases dst with
    | none => simp [isNew] at h
    | some d =>
      refine ⟨d, rfl, ?_⟩
      simp only [vop, vAlloc]
      cases hz : zeroD P e with
      | some cs =>
        simp only
        by_cases hd : d < 100000
        · simp only [hd, if_true]
          exact .inl ⟨.cells (cs.map .d), fun k => by simp only [objFree, List.all_eq_true, Bool.not_eq_true']; intro c hc; obtain ⟨y, _, rfl⟩ := List.mem_map.1 hc; rfl, fun _ => rfl⟩
        · simp only [hd, if_false]; exact .inr fun _ => trivial
      | none =>
        simp only
        cases hc : zeroC P e with
        | some cs =>
          simp only
          by_cases hd : d < 100000
          · simp only [hd, if_true]
            exact .inl ⟨zObj cs, fun k => zObj_free (zeroC_free hc), fun _ => rfl⟩
          · simp only [hd, if_false]; exact .inr fun _ => trivial
        | none => exact .inr fun _ => rfl
  | _ => simp [isNew] at h
theorem map_same {α : Type} {f : α → α} : ∀ {l : List α}, (∀ x ∈ l, f x = x) → l.map f = l
  | [], _ => rfl
  | x :: r, h => by rw [List.map_cons, h x (.head _), map_same fun y hy => h y (.tail _ hy)]
/-- A new object under a free name. -/
theorem newObj_free {k : Nat} {o : AObj} (h : keyFree k st = true) : newObjAt st k o = { st with H := setKey k o st.H } := by
  obtain ⟨h1, h2, h3⟩ := keyFree_spec h
  unfold newObjAt
  have e1 : st.tmps.map (killRef k) = st.tmps := map_same fun v hv => by unfold killRef; rw [h1 v hv, if_neg (by simp)]
  have e2 : (st.H.map fun p => (p.1, killObj k p.2)) = st.H := map_same fun p hp => by
    obtain ⟨a, b⟩ := p
    have := (h2 _ hp).2
    cases b with
    | cells cs =>
      simp only [objFree, List.all_eq_true, Bool.not_eq_true'] at this
      simp only [killObj]
      rw [map_same fun v hv => by unfold killRef; rw [this v hv, if_neg (by simp)]]
    | _ => rfl
  have e3 : dropKey k st.own = st.own := map_same fun c hc => by
    obtain ⟨a, b⟩ := c
    simp only
    rw [List.filter_eq_self.2 fun l hl => by simp [h3 _ hc l hl]]
  rw [e1, e2, e3]
theorem repKey_memH {k : Nat} {o : AObj} : ∀ {H : List (Nat × AObj)} {p : Nat × AObj}, p ∈ repKey k o H → p = (k, o) ∨ p ∈ H
  | (k', o') :: r, p, h => by
    unfold repKey at h
    split at h
    · rcases List.mem_cons.1 h with h | h
      · exact .inl h
      · exact .inr (.tail _ h)
    · rcases List.mem_cons.1 h with h | h
      · exact .inr (h ▸ .head _)
      · rcases repKey_memH h with h | h
        · exact .inl h
        · exact .inr (.tail _ h)
theorem insKey_memH {k : Nat} {o : AObj} : ∀ {H : List (Nat × AObj)} {p : Nat × AObj}, p ∈ insKey k o H → p = (k, o) ∨ p ∈ H
  | [], p, h => by simp [insKey] at h; exact .inl h
  | (k', o') :: r, p, h => by
    unfold insKey at h
    split at h
    · rcases List.mem_cons.1 h with h | h
      · exact .inl h
      · exact .inr h
    · rcases List.mem_cons.1 h with h | h
      · exact .inr (h ▸ .head _)
      · rcases insKey_memH h with h | h
        · exact .inl h
        · exact .inr (.tail _ h)
theorem setKey_memH {k : Nat} {o : AObj} {H : List (Nat × AObj)} {p : Nat × AObj} (h : p ∈ setKey k o H) : p = (k, o) ∨ p ∈ H := by
  unfold setKey at h
  split at h
  · exact repKey_memH h
  · exact insKey_memH h
theorem newObj_keep {k d : Nat} {cs : AObj} (hd : d ≠ k) (hc : objFree k cs = true) (h : keyFree k st = true) : keyFree k (newObjAt st d cs) = true := by
  obtain ⟨h1, h2, h3⟩ := keyFree_spec h
  have kill : ∀ v : DV, mentions k v = false → mentions k (killRef d v) = false := fun v hv => by
    unfold killRef
    split
    · rfl
    · exact hv
  refine keyFree_mk (fun v hv => ?_) (fun p hp => ?_) fun c hcc l hl => ?_
  · obtain ⟨u, hu, rfl⟩ := List.mem_map.1 hv
    exact kill u (h1 u hu)
  · rcases setKey_memH hp with rfl | hp
    · exact ⟨hd, hc⟩
    · obtain ⟨q, hq, rfl⟩ := List.mem_map.1 hp
      obtain ⟨q1, q2⟩ := h2 q hq
      refine ⟨q1, ?_⟩
      cases hq2 : q.2 with
      | cells c0 =>
        rw [hq2] at q2
        simp only [objFree, killObj, List.all_eq_true, Bool.not_eq_true'] at q2 ⊢
        intro v hv
        obtain ⟨u, hu, rfl⟩ := List.mem_map.1 hv
        exact kill u (q2 u hu)
      | _ => rfl
  · obtain ⟨c0, hc0, rfl⟩ := List.mem_map.1 hcc
    exact h3 c0 hc0 l (List.mem_filter.1 hl).1
theorem dropKey_drop (k : Nat) (x : Loc) (own : List (TypeId × List Loc)) : dropKey k (dropLoc x own) = dropLoc x (dropKey k own) := by
  simp only [dropKey, dropLoc, List.map_map]
  refine List.map_congr_left fun c _ => ?_
  simp only [Function.comp, List.filter_filter, Bool.and_comm]
theorem st_spec {o : Oper} (h : isSt o = true) : o.dst = none ∧ ∃ t a x, o.op = .store t a x := by
  obtain ⟨dst, op, ty, pos, after, guard⟩ := o
  cases op with
  | store t a x =>
    cases dst with
    | none => exact ⟨rfl, t, a, x, rfl⟩
    | some d => simp [isSt] at h
  | _ => simp [isSt] at h
theorem st_out {o : Oper} (h : isSt o = true) (ho : vop P G o st = some out) : out.v = .tup [] ∧ out.act = .no ∧ out.st.tmps = st.tmps := by
  obtain ⟨_, t, a, x, hop⟩ := st_spec h
  simp only [vop, hop, vStore] at ho
  split at ho
  · split at ho
    · split at ho
      · simp only [Option.some.injEq] at ho; subst ho; exact ⟨rfl, rfl, rfl⟩
      · cases ho
    · cases ho
  · cases ho
theorem st_finish {all : Array Oper} {o : Oper} (h : isSt o = true) {dst : Option Tmp} {d : DV} (hl : ∀ t, dst = some t → t ∉ o.looksAt all) : vop P G o (finish st dst d .no) = (vop P G o st).map fun out => ⟨out.v, out.act, finish out.st dst d .no⟩ := by
  have he := eval_looks (G := G) (st := st) (d := d) (act := .no) hl
  obtain ⟨_, t, a, x, hop⟩ := st_spec h
  have ha := he a (by simp [hop, Op.operands])
  have hx := he x (by simp [hop, Op.operands])
  have hxl : ∀ u s, dst = some u → tmpAct x = .al (.t s) → s ≠ u := fun u s hu hs e => by
    cases x with
    | tmp j =>
      simp only [tmpAct, OA.al.injEq, Loc.t.injEq] at hs
      exact hl u hu (by rw [← e, ← hs]; exact List.mem_append_left _ (List.mem_filterMap.2 ⟨.tmp j, by simp [hop, Op.operands], rfl⟩))
    | _ => cases hs
  simp only [vop, hop, vStore, ha, hx, finish_H]
  split
  · rename_i k off ys _ _
    split
    · split
      · simp only [Option.map_some, Option.some.injEq, Out.mk.injEq, true_and]
        cases dst with
        | none => rfl
        | some u =>
          simp only [finish, St.mk.injEq, true_and]
          split
          · rcases slAct_cases (st.eval G x) (tmpAct x) with h1 | h1
            · rw [h1]; exact (dropLoc_comm _ _ _)
            · rw [h1]
              cases hx' : tmpAct x with
              | no => exact (dropLoc_comm _ _ _)
              | al l =>
                cases x with
                | tmp j =>
                  simp only [tmpAct, OA.al.injEq] at hx'
                  subst hx'
                  have hju : (Loc.t j) ≠ .t u := fun e => hxl u j rfl rfl (by cases e; rfl)
                  simp only [ownAct]
                  rw [if_neg (by simp), if_neg (by simp), dropLoc_comm, alias_drop hju (by simp)]
                | _ => cases hx'
              | fresh e => cases x <;> cases hx'
          · exact dropKey_drop _ _ _
      · rfl
    · rfl
  · rfl
theorem vop_pure {o : Oper} (hq : pureOp o.op = true) {st' : St} (he : ∀ x ∈ o.op.operands, st'.eval G x = st.eval G x) : vop P G o st' = (vop P G o st).map fun out => ⟨out.v, out.act, st'⟩ := by
  obtain ⟨dst, op, ty, pos, after, guard⟩ := o
  have bnd : ∀ (x : Option Operand) (d n : Nat), (∀ y, x = some y → st'.eval G y = st.eval G y) → optBound G st' x d n = optBound G st x d n := fun x d n hx => by
    cases x with
    | none => rfl
    | some y => simp only [optBound, hx y rfl]
  cases op <;> simp only [pureOp] at hq <;> try cases hq
  all_goals simp only [Op.operands] at he
  case move x => simp [vop, vMove, he]
  case assign x => simp [vop, vMove, he]
  case pick c a b => simp only [vop, vPick, he c (by simp), he a (by simp), he b (by simp)]; split <;> rfl
  case nilCheck x => simp only [vop, vNilCheck, he x (by simp)]; split <;> rfl
  case binOp op t x y u =>
    simp only [vop, vBinN, vNilTest, vBin, he x (by simp), he y (by simp)]
    split
    · split <;> rfl
    · split
      · simp [Option.map_map, Function.comp_def]
      · rfl
  case unOp op t x =>
    simp only [vop, vUn, he x (by simp)]
    split
    · simp [Option.map_map, Function.comp_def]
    · rfl
  case convert src dst x =>
    simp only [vop, vConv, he x (by simp)]
    split
    · simp [Option.map_map, Function.comp_def]
    · rfl
  case extract x i =>
    simp only [vop, vExtract, he x (by simp)]
    split
    · simp [Option.map_map, Function.comp_def]
    · rfl
  case field t x i =>
    simp only [vop, vField, he x (by simp)]
    split
    · simp [Option.map_map, Function.comp_def]
    · rfl
  case index t x i =>
    simp only [vop, vIndex, he x (by simp), he i (by simp)]
    split
    · simp [Option.map_bind, Option.map_map, Function.comp_def]
    · simp [Option.map_bind, Option.map_map, Function.comp_def]
    · rfl
  case indexAddr t x i =>
    simp only [vop, vIndexAddr, he x (by simp), he i (by simp)]
    split
    · rw [Option.map_bind]
      congr 1
      funext j
      simp only [Function.comp]
      rw [Option.map_bind]
      congr 1
      funext cs
      simp only [Function.comp]
      split <;> rfl
    · split
      · rfl
      · simp [Option.map_map, Function.comp_def]
    · split
      · rfl
      · simp [Option.map_map, Function.comp_def]
    · rfl
  case fieldAddr t x i =>
    simp only [vop, vFieldAddr, he x (by simp)]
    split
    · split
      · rfl
      · split <;> rfl
    · rfl
  case slice t x lo hi mx =>
    have hlo : ∀ y, lo = some y → st'.eval G y = st.eval G y := fun y hy => he y (by simp [hy])
    have hhi : ∀ y, hi = some y → st'.eval G y = st.eval G y := fun y hy => he y (by simp [hy])
    have hmx : ∀ y, mx = some y → st'.eval G y = st.eval G y := fun y hy => he y (by simp [hy])
    simp only [vop, vSlice, he x (by simp), bnd lo _ _ hlo, bnd hi _ _ hhi]
    split
    · simp [Option.map_bind, Option.map_map, Function.comp_def]
    · split
      · simp [Option.map_bind, Option.map_map, Function.comp_def]
      · rfl
    · split
      · simp [Option.map_bind, Option.map_map, Function.comp_def]
      · rfl
    · rw [bnd (some _) _ _ fun y hy => hmx y hy]; split <;> rfl
    · rw [bnd (some _) _ _ fun y hy => hmx y hy]; split <;> rfl
    · rfl
theorem pure_quiet {o : Oper} (h : pureOp o.op = true) : quietOp o.op = true ∧ callOfH G o st = none ∧ callOf G o st = none := by
  obtain ⟨dst, op, ty, pos, after, guard⟩ := o
  cases op <;> simp only [pureOp] at h <;> first | exact ⟨rfl, rfl, rfl⟩ | cases h
theorem QY.pure {all : Array Oper} {o : Oper} {d : DV} {ac : OA} {st' : St} (h : QY P G all o d ac st) (hq : pureOp o.op = true) (ht : st'.tmps = st.tmps) : QY P G all o d ac st' := by
  have he : ∀ x : Operand, st'.eval G x = st.eval G x := fun x => by cases x <;> simp [St.eval, ht]
  obtain ⟨_, h1, h2⟩ := pure_quiet (G := G) (st := st) hq
  obtain ⟨_, h1', h2'⟩ := pure_quiet (G := G) (st := st') hq
  rcases h with ⟨hw, ⟨f, ds, own, hc, _⟩ | ⟨hc, hch, ho⟩ | ⟨hc, f, as, ks, hch, _⟩⟩ | ⟨hw, h3⟩
  · rw [h2] at hc; cases hc
  · exact .inl ⟨by rw [ht]; exact hw, .inr (.inl ⟨h2', h1', by rw [vop_pure hq (fun x _ => he x), ho]; rfl⟩)⟩
  · rw [h1] at hch; cases hch
  · exact .inr ⟨by rw [ht]; exact hw, h3⟩
theorem store_keep {o : Oper} {k : Nat} {t : TypeId} {ad x : Operand} (ho : o.op = .store t ad x) (hf : keyFree k st = true) (h : vop P G o st = some out) : keyFree k out.st = true ∧ mentions k out.v = false := by
  obtain ⟨h1, h2, h3⟩ := keyFree_spec hf
  simp only [vop, ho, vStore] at h
  split at h
  · rename_i key off ys ha hx
    have hne : key ≠ k := fun e => by have := eval_free (G := G) hf ad; rw [ha] at this; simp only [mentions, beq_eq_false_iff_ne, ne_eq] at this; exact this e
    split at h
    · rename_i cs hk
      split at h
      · simp only [Option.some.injEq] at h
        subst h
        refine ⟨keyFree_mk h1 (fun p hp => ?_) fun c hc l hl => ?_, rfl⟩
        · rcases setKey_memH hp with rfl | hp
          · refine ⟨hne, ?_⟩
            simp only [objFree, List.all_eq_true, Bool.not_eq_true']
            exact over_free (fun c hc => obj_free hf hk c hc) (vcells_free (eval_free hf x) hx)
          · exact h2 p hp
        · simp only at hc
          have drop : ∀ c ∈ dropLoc (.c key off) st.own, ∀ l ∈ c.2, l.ofKey k = false := fun c hc l hl => by
            obtain ⟨c0, hc0, rfl⟩ := List.mem_map.1 hc
            exact h3 c0 hc0 l (List.mem_filter.1 hl).1
          have hkk : (Loc.c key off).ofKey k = false := by simp [Loc.ofKey, hne]
          split at hc
          · generalize slAct (st.eval G x) (tmpAct x) = act at hc
            cases act with
            | no => exact drop c hc l hl
            | al l0 =>
              simp only [ownAct] at hc
              split at hc
              · exact h3 c hc l hl
              · unfold addAlias at hc
                obtain ⟨c0, hc0, rfl⟩ := List.mem_map.1 hc
                split at hl
                · rcases List.mem_cons.1 hl with rfl | hl
                  · exact hkk
                  · exact drop c0 hc0 l hl
                · exact drop c0 hc0 l hl
            | fresh e =>
              simp only [ownAct] at hc
              rcases List.mem_cons.1 hc with rfl | hc
              · simp only [List.mem_singleton] at hl; subst hl; exact hkk
              · exact drop c hc l hl
          · obtain ⟨c0, hc0, rfl⟩ := List.mem_map.1 hc
            exact h3 c0 hc0 l (List.mem_filter.1 hl).1
      · cases h
    · cases h
  · cases h
theorem Eff_keep {all : Array Oper} {o : Oper} {s : St} {k : Nat} (h : Eff P G all o st s) (hf : keyFree k st = true) (hn : isNew o = true → o.dst ≠ some k) : keyFree k s = true := by
  rcases h with ⟨hq, d, act, hy, rfl⟩ | ⟨hs, ⟨hw, out, ho, rfl⟩ | ⟨hw, rfl⟩⟩
  · exact keyFree_finish hf (hy.free hq hf)
  · cases ha : isApp o with
    | true =>
      obtain ⟨_, ⟨es, hv⟩, own', hst, hsub⟩ := app_spec ha ho
      obtain ⟨h1, h2, h3⟩ := keyFree_spec hf
      refine keyFree_finish ?_ (by rw [hv]; rfl)
      rw [hst]
      exact keyFree_mk h1 h2 fun c hc => h3 c (hsub c hc)
    | false =>
      cases hs2 : isNew o with
      | true =>
        obtain ⟨d, hd, ⟨cs, hcs, hv⟩ | hv⟩ := new_spec (P := P) (G := G) hs2
        · rw [hv] at ho; cases ho
          have hdk : d ≠ k := fun e => hn hs2 (e ▸ hd)
          exact keyFree_finish (newObj_keep hdk (hcs k) hf) (by simp [mentions, hdk])
        · rw [hv] at ho; cases ho
      | false =>
        have hst : isSt o = true := by simpa [semi, ha, hs2] using hs
        obtain ⟨_, t, a, x, hop⟩ := st_spec hst
        obtain ⟨h1, h2⟩ := store_keep hop hf ho
        exact keyFree_finish h1 h2
  · exact keyFree_finish hf rfl
theorem eval_setH {H : List (Nat × AObj)} (x : Operand) : ({ st with H := H } : St).eval G x = st.eval G x := by cases x <;> rfl
theorem eval_setOwn {own : List (TypeId × List Loc)} (x : Operand) : ({ st with own := own } : St).eval G x = st.eval G x := by cases x <;> rfl
theorem new_quiet {ops : Array Oper} {o : Oper} (h : isNew o = true) : noisy ops o = false := by
  obtain ⟨dst, op, ty, pos, after, guard⟩ := o
  cases op with
  | alloc e => cases guard <;> cases dst <;> rfl
  | _ => simp [isNew] at h
theorem diamond {ops : Array Oper} {x y : Oper} {s1 s12 : St} (hap : x.apart ops y = true) (hp : pairOk ops x y = true) (fx : isNew x = true → ∀ d, x.dst = some d → keyFree d st = true) (fy : isNew y = true → ∀ d, y.dst = some d → keyFree d st = true)
    (h1 : Eff P G ops x st s1) (h2 : Eff P G ops y s1 s12) : ∃ s2, Eff P G ops y st s2 ∧ Eff P G ops x s2 s12 := by
  obtain ⟨a1, a2, a3⟩ := Oper.apart_spec hap
  have a2' : ∀ t, y.dst = some t → x.dst ≠ some t := fun t ht he => a2 t he ht
  unfold pairOk at hp
  simp only [Bool.or_eq_true, Bool.and_eq_true, Bool.not_eq_true'] at hp
  have noq : ∀ {o : Oper} {a : OA}, noisy ops o = false → qAct ops o a = .no := fun hn => by unfold qAct; rw [hn]; rfl
  rcases hp with ((((((⟨⟨hqx, hqy⟩, hnn⟩ | ⟨⟨hqx, hsy⟩, hnx⟩) | ⟨⟨⟨hsx, hqy⟩, hny⟩, hcy⟩) | ⟨hqx, hnewy⟩) | ⟨⟨hnewx, hqy⟩, hcy⟩) | ⟨⟨hsx, hsy⟩, hnn⟩) | ⟨⟨hpx, hnx⟩, hsy⟩) | ⟨⟨hsx, hpy⟩, hny⟩
  · -- both quiet
    rcases h1 with ⟨_, d, ax, hx, rfl⟩ | ⟨hs, _⟩
    · rcases h2 with ⟨_, e, ay, hy, rfl⟩ | ⟨hs, _⟩
      · have hy' := (QY.finish hqy a1).1 hy
        refine ⟨_, .inl ⟨hqy, e, ay, hy', rfl⟩, .inl ⟨hqx, d, ax, (QY.finish hqx a3).2 hx, ?_⟩⟩
        exact finish_comm a2 a1 a3 hnn hx.act hy'.act
      · rw [(semi_call (G := G) (st := st) hs).2.2.1] at hqy; cases hqy
    · rw [(semi_call (G := G) (st := st) hs).2.2.1] at hqx; cases hqx
  · -- a quiet one, and then one that is not
    have hsy' : (isApp y || isNew y) = true := by simp [hsy]
    rcases h1 with ⟨_, d, ax, hx, rfl⟩ | ⟨hs, _⟩
    · rw [noq hnx] at h2
      rcases h2 with ⟨hq, _⟩ | ⟨_, ⟨hw, out, ho, rfl⟩ | ⟨hw, rfl⟩⟩
      · rw [(semi_call (G := G) (st := st) (semi_of hsy')).2.2.1] at hq; cases hq
      · rw [wantedD_finish a1] at hw
        cases ha : isApp y with
        | true =>
          rw [app_finish ha a1] at ho
          obtain ⟨out0, ho0, rfl⟩ := Option.map_eq_some_iff.1 ho
          obtain ⟨⟨e, hact⟩, _, own', hst, hsub⟩ := app_spec ha ho0
          refine ⟨_, .inr ⟨semi_of hsy', .inl ⟨hw, out0, ho0, rfl⟩⟩, .inl ⟨hqx, d, ax, ?_, ?_⟩⟩
          · refine (QY.finish hqx a3).2 ?_
            rw [hst]
            refine QY.to hx hqx rfl (fun z _ => eval_setOwn z) (fun _ _ _ _ => rfl) (fun _ _ _ h => h) (fun _ ks _ hno => ?_)
            exact List.all_eq_true.2 fun c hc => List.all_eq_true.1 hno c (hsub c hc)
          · simp only
            rw [noq hnx, hact, finish_comm0 a2 (.inr ⟨e, rfl⟩)]
        | false =>
          have hny : isNew y = true := by simpa [ha] using hsy'
          obtain ⟨k, hk, ⟨cs, hcs, hv⟩ | hv⟩ := new_spec (P := P) (G := G) hny
          · have hf := fy hny k hk
            have hfd := hx.free hqx hf
            have hf1 : keyFree k (finish st x.dst d .no) = true := keyFree_finish hf hfd
            rw [hv] at ho; cases ho
            rw [newObj_free hf1]
            refine ⟨_, .inr ⟨semi_of hsy', .inl ⟨hw, _, hv st, rfl⟩⟩, .inl ⟨hqx, d, ax, ?_, ?_⟩⟩
            · refine (QY.finish hqx a3).2 ?_
              simp only
              rw [newObj_free hf]
              refine QY.to hx hqx rfl (fun z _ => eval_setH z) (fun z _ k' hm => ?_) (fun _ k' ob hkk => ?_) (fun _ ks _ hno => hno)
              · have : k ≠ k' := fun e => by subst e; rw [eval_free hf z] at hm; cases hm
                exact getKey_setKey_ne _ this _
              · have : k ≠ k' := fun e => by subst e; rw [keyFree_none hf] at hkk; cases hkk
                rw [getKey_setKey_ne _ this]; exact hkk
            · simp only
              rw [noq hnx, newObj_free hf, ← finish_comm0 a2 (.inl rfl)]
              congr 1
              cases x.dst <;> rfl
          · rw [hv] at ho; cases ho
      · rw [wantedD_finish a1] at hw
        refine ⟨_, .inr ⟨semi_of hsy', .inr ⟨hw, rfl⟩⟩, .inl ⟨hqx, d, ax, (QY.finish hqx a3).2 hx, ?_⟩⟩
        rw [noq hnx, finish_comm0 a2 (.inl rfl)]
    · rw [(semi_call (G := G) (st := st) hs).2.2.1] at hqx; cases hqx
  · -- one that is not quiet, and then a quiet one
    have hsx' : (isApp x || isNew x) = true := by simp [hsx]
    rcases h2 with ⟨_, e, ay, hy, rfl⟩ | ⟨hs, _⟩
    · rcases h1 with ⟨hq, _⟩ | ⟨_, ⟨hw, out, ho, rfl⟩ | ⟨hw, rfl⟩⟩
      · rw [(semi_call (G := G) (st := st) (semi_of hsx')).2.2.1] at hq; cases hq
      · cases ha : isApp x with
        | true =>
          obtain ⟨⟨k, hact⟩, _, own', hst, hsub⟩ := app_spec ha ho
          have hy' : QY P G ops y e ay st := by
            have h3 := (QY.finish hqy a1).1 hy
            rw [hst] at h3
            exact h3.to hqy rfl (fun z _ => (eval_setOwn z).symm) (fun _ _ _ _ => rfl) (fun _ _ _ h => h) fun hc => by rw [hcy] at hc; cases hc
          refine ⟨_, .inl ⟨hqy, e, ay, hy', rfl⟩, .inr ⟨semi_of hsx', .inl ⟨by rw [wantedD_finish a3]; exact hw, ⟨out.v, out.act, finish out.st y.dst e .no⟩, ?_, ?_⟩⟩⟩
          · rw [noq hny, app_finish ha a3, ho]; rfl
          · simp only
            rw [noq hny, hact, finish_comm0 a2' (.inr ⟨k, rfl⟩)]
        | false =>
          have hnx : isNew x = true := by simpa [ha] using hsx'
          obtain ⟨k, hk, ⟨cs, hcs, hv⟩ | hv⟩ := new_spec (P := P) (G := G) hnx
          · have hf := fx hnx k hk
            rw [hv] at ho; cases ho
            have hy' : QY P G ops y e ay st := by
              have h3 := (QY.finish hqy a1).1 hy
              simp only at h3
              rw [newObj_free hf] at h3
              refine h3.to hqy rfl (fun z _ => (eval_setH z).symm) (fun z _ k' hm => ?_) (fun hc => by rw [hcy] at hc; cases hc) fun hc => by rw [hcy] at hc; cases hc
              rw [eval_setH] at hm
              have : k ≠ k' := fun e => by subst e; rw [eval_free hf z] at hm; cases hm
              exact (getKey_setKey_ne _ this _).symm
            have hf2 : keyFree k (finish st y.dst e .no) = true := keyFree_finish hf (hy'.free hqy hf)
            refine ⟨_, .inl ⟨hqy, e, ay, hy', rfl⟩, .inr ⟨semi_of hsx', .inl ⟨by rw [wantedD_finish a3]; exact hw, _, hv _, ?_⟩⟩⟩
            simp only
            rw [noq hny, newObj_free hf, newObj_free hf2, finish_comm0 a2 (.inl rfl)]
            cases y.dst <;> rfl
          · rw [hv] at ho; cases ho
      · have hy' := (QY.finish hqy a1).1 hy
        refine ⟨_, .inl ⟨hqy, e, ay, hy', rfl⟩, .inr ⟨semi_of hsx', .inr ⟨by rw [wantedD_finish a3]; exact hw, ?_⟩⟩⟩
        rw [noq hny, finish_comm0 a2' (.inl rfl)]
    · rw [(semi_call (G := G) (st := st) hs).2.2.1] at hqy; cases hqy
  · -- a quiet one, and then an object is made
    have hss : semi y = true := semi_of (by simp [hnewy])
    have hnoy : noisy ops y = false := new_quiet hnewy
    rcases h1 with ⟨_, d, ax, hx, rfl⟩ | ⟨hs, _⟩
    · rcases h2 with ⟨hq, _⟩ | ⟨_, ⟨hw, out, ho, rfl⟩ | ⟨hw, rfl⟩⟩
      · rw [(semi_call (G := G) (st := st) hss).2.2.1] at hq; cases hq
      · rw [wantedD_finish a1] at hw
        obtain ⟨k, hk, ⟨cs, hcs, hv⟩ | hv⟩ := new_spec (P := P) (G := G) hnewy
        · have hf := fy hnewy k hk
          have hfd := hx.free hqx hf
          have hf1 : keyFree k (finish st x.dst d (qAct ops x ax)) = true := keyFree_finish hf hfd
          rw [hv] at ho; cases ho
          rw [newObj_free hf1]
          refine ⟨_, .inr ⟨hss, .inl ⟨hw, _, hv st, rfl⟩⟩, .inl ⟨hqx, d, ax, ?_, ?_⟩⟩
          · refine (QY.finish hqx a3).2 ?_
            simp only
            rw [newObj_free hf]
            refine QY.to hx hqx rfl (fun z _ => eval_setH z) (fun z _ k' hm => ?_) (fun _ k' ob hkk => ?_) (fun _ ks _ hno => hno)
            · have : k ≠ k' := fun e => by subst e; rw [eval_free hf z] at hm; cases hm
              exact getKey_setKey_ne _ this _
            · have : k ≠ k' := fun e => by subst e; rw [keyFree_none hf] at hkk; cases hkk
              rw [getKey_setKey_ne _ this]; exact hkk
          · simp only
            rw [newObj_free hf, ← finish_comm a2 a1 a3 (by rw [hnoy, Bool.and_false]) hx.act (.inl rfl)]
            congr 1
            cases x.dst <;> rfl
        · rw [hv] at ho; cases ho
      · rw [wantedD_finish a1] at hw
        refine ⟨_, .inr ⟨hss, .inr ⟨hw, rfl⟩⟩, .inl ⟨hqx, d, ax, (QY.finish hqx a3).2 hx, ?_⟩⟩
        exact finish_comm a2 a1 a3 (by rw [hnoy, Bool.and_false]) hx.act (.inl rfl)
    · rw [(semi_call (G := G) (st := st) hs).2.2.1] at hqx; cases hqx
  · -- an object is made, and then a quiet one
    have hss : semi x = true := semi_of (by simp [hnewx])
    have hnox : noisy ops x = false := new_quiet hnewx
    rcases h2 with ⟨_, e, ay, hy, rfl⟩ | ⟨hs, _⟩
    · rcases h1 with ⟨hq, _⟩ | ⟨_, ⟨hw, out, ho, rfl⟩ | ⟨hw, rfl⟩⟩
      · rw [(semi_call (G := G) (st := st) hss).2.2.1] at hq; cases hq
      · obtain ⟨k, hk, ⟨cs, hcs, hv⟩ | hv⟩ := new_spec (P := P) (G := G) hnewx
        · have hf := fx hnewx k hk
          rw [hv] at ho; cases ho
          have hy' : QY P G ops y e ay st := by
            have h3 := (QY.finish hqy a1).1 hy
            simp only at h3
            rw [newObj_free hf] at h3
            refine QY.to h3 hqy rfl (fun z _ => (eval_setH z).symm) (fun z _ k' hm => ?_) (fun hc => by rw [hcy] at hc; cases hc) (fun hc => by rw [hcy] at hc; cases hc)
            rw [eval_setH] at hm
            have : k ≠ k' := fun e => by subst e; rw [eval_free hf z] at hm; cases hm
            exact (getKey_setKey_ne _ this _).symm
          have hf2 : keyFree k (finish st y.dst e (qAct ops y ay)) = true := keyFree_finish hf (hy'.free hqy hf)
          refine ⟨_, .inl ⟨hqy, e, ay, hy', rfl⟩, .inr ⟨hss, .inl ⟨by rw [wantedD_finish a3]; exact hw, _, hv _, ?_⟩⟩⟩
          simp only
          rw [newObj_free hf, newObj_free hf2, finish_comm a2 a1 a3 (by rw [hnox, Bool.false_and]) (.inl rfl) hy'.act]
          cases y.dst <;> rfl
        · rw [hv] at ho; cases ho
      · have hy' := (QY.finish hqy a1).1 hy
        refine ⟨_, .inl ⟨hqy, e, ay, hy', rfl⟩, .inr ⟨hss, .inr ⟨by rw [wantedD_finish a3]; exact hw, ?_⟩⟩⟩
        exact finish_comm a2 a1 a3 (by rw [hnox, Bool.false_and]) (.inl rfl) hy'.act
    · rw [(semi_call (G := G) (st := st) hs).2.2.1] at hqy; cases hqy
  · -- neither is quiet, one makes an object
    have hsx' : (isApp x || isNew x) = true := by simpa using hsx
    have hsy' : (isApp y || isNew y) = true := by simpa using hsy
    have nq : ∀ {o : Oper}, (isApp o || isNew o) = true → ¬ quietOp o.op = true := fun h => by rw [(semi_call (G := G) (st := st) (semi_of h)).2.2.1]; simp
    have na : ∀ {o : Oper}, isNew o = true → isApp o = false := fun {o} h => by
      obtain ⟨dst, op, ty, pos, after, guard⟩ := o
      cases op <;> first | rfl | (simp [isNew] at h)
    rcases h1 with ⟨hq, _⟩ | ⟨_, ⟨hwx, out, ho, rfl⟩ | ⟨hwx, rfl⟩⟩
    · exact absurd hq (nq hsx')
    · -- the first is carried out
      rcases h2 with ⟨hq, _⟩ | ⟨_, ⟨hw, out2, ho2, rfl⟩ | ⟨hw, rfl⟩⟩
      · exact absurd hq (nq hsy')
      · cases hx : isNew x with
        | true =>
          obtain ⟨k, hk, ⟨cs, hcs, hv⟩ | hv⟩ := new_spec (P := P) (G := G) hx
          · have hf := fx hx k hk
            rw [hv] at ho; cases ho
            rw [newObj_free hf] at hw ho2
            rw [wantedD_finish a1] at hw
            cases hy : isNew y with
            | true =>
              obtain ⟨k2, hk2, ⟨cs2, hcs2, hv2⟩ | hv2⟩ := new_spec (P := P) (G := G) hy
              · have hf2 := fy hy k2 hk2
                have hne : k ≠ k2 := fun e => a2 k hk (e ▸ hk2)
                have hm : mentions k2 (.ptr k 0) = false := by simp [mentions, hne]
                have hm2 : mentions k (.ptr k2 0) = false := by simp [mentions, Ne.symm hne]
                have g1 : keyFree k2 (finish { st with H := setKey k cs st.H } x.dst (.ptr k 0) .no) = true := keyFree_finish (by have := newObj_keep hne (hcs k2) hf2; rwa [newObj_free hf] at this) hm
                have g2 : keyFree k (finish { st with H := setKey k2 cs2 st.H } y.dst (.ptr k2 0) .no) = true := keyFree_finish (by have := newObj_keep (Ne.symm hne) (hcs2 k) hf; rwa [newObj_free hf2] at this) hm2
                rw [hv2] at ho2; cases ho2
                refine ⟨_, .inr ⟨semi_of hsy', .inl ⟨hw, _, hv2 st, rfl⟩⟩, .inr ⟨semi_of hsx', .inl ⟨by simp only; rw [wantedD_finish a3, newObj_free hf2]; exact hwx, _, hv _, ?_⟩⟩⟩
                simp only
                rw [newObj_free hf2, newObj_free g1, newObj_free g2]
                have e1 : ({ finish { st with H := setKey k cs st.H } x.dst (.ptr k 0) .no with H := setKey k2 cs2 (finish { st with H := setKey k cs st.H } x.dst (.ptr k 0) .no).H } : St) = finish { st with H := setKey k2 cs2 (setKey k cs st.H) } x.dst (.ptr k 0) .no := by cases x.dst <;> rfl
                have e2 : ({ finish { st with H := setKey k2 cs2 st.H } y.dst (.ptr k2 0) .no with H := setKey k cs (finish { st with H := setKey k2 cs2 st.H } y.dst (.ptr k2 0) .no).H } : St) = finish { st with H := setKey k cs (setKey k2 cs2 st.H) } y.dst (.ptr k2 0) .no := by cases y.dst <;> rfl
                rw [e1, e2, setKey_comm hne _ _ (keyFree_none hf) (keyFree_none hf2)]
                exact finish_comm0 a2 (.inl rfl)
              · rw [hv2] at ho2; cases ho2
            | false =>
              have hay : isApp y = true := by simpa [hy] using hsy'
              rw [app_finish hay a1, app_setH hay] at ho2
              obtain ⟨o1, ho1, rfl⟩ := Option.map_eq_some_iff.1 ho2
              obtain ⟨o0, ho0, rfl⟩ := Option.map_eq_some_iff.1 ho1
              obtain ⟨⟨e, hact⟩, _, own', hst, hsub⟩ := app_spec hay ho0
              have heff : Eff P G ops y st (finish o0.st y.dst o0.v o0.act) := .inr ⟨semi_of hsy', .inl ⟨hw, o0, ho0, rfl⟩⟩
              have g2 : keyFree k (finish o0.st y.dst o0.v o0.act) = true := Eff_keep heff hf fun h => by rw [hy] at h; cases h
              refine ⟨_, .inr ⟨semi_of hsy', .inl ⟨hw, o0, ho0, rfl⟩⟩, .inr ⟨semi_of hsx', .inl ⟨by rw [wantedD_finish a3, hst]; exact hwx, _, hv _, ?_⟩⟩⟩
              simp only
              rw [newObj_free g2, hact, finish_comm0 a2 (.inr ⟨e, rfl⟩), hst]
              cases y.dst <;> rfl
          · rw [hv] at ho; cases ho
        | false =>
          have hax : isApp x = true := by simpa [hx] using hsx'
          have hy : isNew y = true := by simpa [hx] using hnn
          obtain ⟨⟨e, hact⟩, ⟨es, hvv⟩, own', hst, hsub⟩ := app_spec hax ho
          obtain ⟨k2, hk2, ⟨cs2, hcs2, hv2⟩ | hv2⟩ := new_spec (P := P) (G := G) hy
          · have hf2 := fy hy k2 hk2
            have heff : Eff P G ops x st (finish out.st x.dst out.v out.act) := .inr ⟨semi_of hsx', .inl ⟨hwx, out, ho, rfl⟩⟩
            have g1 : keyFree k2 (finish out.st x.dst out.v out.act) = true := Eff_keep heff hf2 fun h => by rw [hx] at h; cases h
            rw [wantedD_finish a1, hst] at hw
            rw [hv2] at ho2; cases ho2
            refine ⟨_, .inr ⟨semi_of hsy', .inl ⟨hw, _, hv2 st, rfl⟩⟩, .inr ⟨semi_of hsx', .inl ⟨by simp only; rw [wantedD_finish a3, newObj_free hf2]; exact hwx, ⟨out.v, out.act, finish { out.st with H := setKey k2 cs2 out.st.H } y.dst (.ptr k2 0) .no⟩, ?_, ?_⟩⟩⟩
            · simp only
              rw [newObj_free hf2, app_finish hax a3, app_setH hax, ho]
              simp only [Option.map_some, hst]
            · simp only
              rw [newObj_free g1, hact, finish_comm0 a2' (.inr ⟨e, rfl⟩), hst]
              congr 1
              cases x.dst <;> rfl
          · rw [hv2] at ho2; cases ho2
      · -- the second is not
        have hst : out.st.tmps.length = out.st.tmps.length := rfl
        have hwy : wantedD y ops st.tmps = some false := by
          rw [wantedD_finish a1] at hw
          cases hx : isNew x with
          | true =>
            obtain ⟨k, hk, ⟨cs, hcs, hv⟩ | hv⟩ := new_spec (P := P) (G := G) hx
            · rw [hv] at ho; cases ho
              rw [newObj_free (fx hx k hk)] at hw; exact hw
            · rw [hv] at ho; cases ho
          | false =>
            obtain ⟨_, _, own', hst, _⟩ := app_spec (by simpa [hx] using hsx') ho
            rw [hst] at hw; exact hw
        refine ⟨_, .inr ⟨semi_of hsy', .inr ⟨hwy, rfl⟩⟩, .inr ⟨semi_of hsx', .inl ⟨by rw [wantedD_finish a3]; exact hwx, ?_⟩⟩⟩
        cases hx : isNew x with
        | true =>
          obtain ⟨k, hk, ⟨cs, hcs, hv⟩ | hv⟩ := new_spec (P := P) (G := G) hx
          · have hf := fx hx k hk
            have g2 : keyFree k (finish st y.dst (.tup []) .no) = true := keyFree_finish hf rfl
            rw [hv] at ho; cases ho
            refine ⟨_, hv _, ?_⟩
            simp only
            rw [newObj_free hf, newObj_free g2, finish_comm0 a2 (.inl rfl)]
            cases y.dst <;> rfl
          · rw [hv] at ho; cases ho
        | false =>
          have hax : isApp x = true := by simpa [hx] using hsx'
          obtain ⟨⟨e, hact⟩, _, own', hst, hsub⟩ := app_spec hax ho
          refine ⟨⟨out.v, out.act, finish out.st y.dst (.tup []) .no⟩, by rw [app_finish hax a3, ho]; rfl, ?_⟩
          simp only
          rw [hact, finish_comm0 a2' (.inr ⟨e, rfl⟩)]
    · -- the first is not carried out
      rcases h2 with ⟨hq, _⟩ | ⟨_, ⟨hw, out2, ho2, rfl⟩ | ⟨hw, rfl⟩⟩
      · exact absurd hq (nq hsy')
      · rw [wantedD_finish a1] at hw
        cases hy : isNew y with
        | true =>
          obtain ⟨k2, hk2, ⟨cs2, hcs2, hv2⟩ | hv2⟩ := new_spec (P := P) (G := G) hy
          · have hf2 := fy hy k2 hk2
            have g1 : keyFree k2 (finish st x.dst (.tup []) .no) = true := keyFree_finish hf2 rfl
            rw [hv2] at ho2; cases ho2
            refine ⟨_, .inr ⟨semi_of hsy', .inl ⟨hw, _, hv2 st, rfl⟩⟩, .inr ⟨semi_of hsx', .inr ⟨by simp only; rw [wantedD_finish a3, newObj_free hf2]; exact hwx, ?_⟩⟩⟩
            simp only
            rw [newObj_free hf2, newObj_free g1, ← finish_comm0 a2 (.inl rfl)]
            congr 1
            cases x.dst <;> rfl
          · rw [hv2] at ho2; cases ho2
        | false =>
          have hay : isApp y = true := by simpa [hy] using hsy'
          rw [app_finish hay a1] at ho2
          obtain ⟨o0, ho0, rfl⟩ := Option.map_eq_some_iff.1 ho2
          obtain ⟨⟨e, hact⟩, _, own', hst, hsub⟩ := app_spec hay ho0
          refine ⟨_, .inr ⟨semi_of hsy', .inl ⟨hw, o0, ho0, rfl⟩⟩, .inr ⟨semi_of hsx', .inr ⟨by rw [wantedD_finish a3, hst]; exact hwx, ?_⟩⟩⟩
          simp only
          rw [hact, finish_comm0 a2 (.inr ⟨e, rfl⟩)]
      · rw [wantedD_finish a1] at hw
        refine ⟨_, .inr ⟨semi_of hsy', .inr ⟨hw, rfl⟩⟩, .inr ⟨semi_of hsx', .inr ⟨by rw [wantedD_finish a3]; exact hwx, ?_⟩⟩⟩
        exact finish_comm0 a2 (.inl rfl)
  · -- one that reads no memory, and then a store
    obtain ⟨hqx, _, _⟩ := pure_quiet (G := G) (st := st) hpx
    obtain ⟨hyd, _⟩ := st_spec hsy
    have hss : semi y = true := by simp [semi, hsy]
    rcases h1 with ⟨_, d, ax, hx, rfl⟩ | ⟨hs, _⟩
    · rw [noq hnx] at h2
      rcases h2 with ⟨hq, _⟩ | ⟨_, ⟨hw, out, ho, rfl⟩ | ⟨hw, rfl⟩⟩
      · rw [(semi_call (G := G) (st := st) hss).2.2.1] at hq; cases hq
      · rw [wantedD_finish a1] at hw
        rw [st_finish hsy a1] at ho
        obtain ⟨o0, ho0, rfl⟩ := Option.map_eq_some_iff.1 ho
        obtain ⟨_, _, htm⟩ := st_out hsy ho0
        refine ⟨_, .inr ⟨hss, .inl ⟨hw, o0, ho0, rfl⟩⟩, .inl ⟨hqx, d, ax, ?_, ?_⟩⟩
        · rw [hyd]; exact hx.pure hpx htm
        · rw [hyd, noq hnx]; rfl
      · rw [wantedD_finish a1] at hw
        refine ⟨_, .inr ⟨hss, .inr ⟨hw, rfl⟩⟩, .inl ⟨hqx, d, ax, ?_, ?_⟩⟩
        · rw [hyd]; exact hx
        · rw [hyd, noq hnx]; rfl
    · rw [(semi_call (G := G) (st := st) hs).2.2.1] at hqx; cases hqx
  · -- a store, and then one that reads no memory
    obtain ⟨hqy, _, _⟩ := pure_quiet (G := G) (st := st) hpy
    obtain ⟨hxd, _⟩ := st_spec hsx
    have hss : semi x = true := by simp [semi, hsx]
    rcases h2 with ⟨_, e, ay, hy, rfl⟩ | ⟨hs, _⟩
    · rcases h1 with ⟨hq, _⟩ | ⟨_, ⟨hw, out, ho, rfl⟩ | ⟨hw, rfl⟩⟩
      · rw [(semi_call (G := G) (st := st) hss).2.2.1] at hq; cases hq
      · obtain ⟨_, _, htm⟩ := st_out hsx ho
        rw [hxd] at hy
        have hy' : QY P G ops y e ay st := QY.pure (st := out.st) hy hpy htm.symm
        refine ⟨_, .inl ⟨hqy, e, ay, hy', rfl⟩, .inr ⟨hss, .inl ⟨by rw [wantedD_finish a3]; exact hw, ⟨out.v, out.act, finish out.st y.dst e .no⟩, ?_, ?_⟩⟩⟩
        · rw [noq hny, st_finish hsx a3, ho]; rfl
        · rw [hxd, noq hny]; rfl
      · rw [hxd] at hy
        refine ⟨_, .inl ⟨hqy, e, ay, hy, rfl⟩, .inr ⟨hss, .inr ⟨by rw [wantedD_finish a3]; exact hw, ?_⟩⟩⟩
        rw [hxd]; rfl
    · rw [(semi_call (G := G) (st := st) hs).2.2.1] at hqy; cases hqy
/-- The names of what is still to be made are free. -/
def NewInv (ops : Array Oper) (listed : Array Bool) (st : St) : Prop := ∀ (j : Nat) (oj : Oper) (d : Tmp), ops[j]? = some oj → isNew oj = true → listed.getD j true = false → oj.dst = some d → keyFree d st = true
def NewApart (ops : Array Oper) : Prop := ∀ (i j : Nat) (oi oj : Oper) (d : Tmp), ops[i]? = some oi → ops[j]? = some oj → isNew oi = true → isNew oj = true → oi.dst = some d → oj.dst = some d → i = j
theorem unlisted_set {listed : Array Bool} {i j : Nat} (h : (listed.setIfInBounds i true).getD j true = false) : i ≠ j ∧ listed.getD j true = false := by
  by_cases hij : i = j
  · subst hij
    exfalso
    rw [Array.getD_eq_getD_getElem?] at h
    by_cases hl : i < listed.size
    · simp [hl] at h
    · rw [Array.getElem?_eq_none (by simpa using hl)] at h; cases h
  · exact ⟨hij, by rwa [getD_set_ne true hij] at h⟩
theorem NewInv.step {ops : Array Oper} {listed : Array Bool} {s : St} {i : Nat} {oi : Oper} (hA : NewApart ops) (hi : ops[i]? = some oi) (hI : NewInv ops listed st) (hk : ∀ k, keyFree k st = true → (isNew oi = true → oi.dst ≠ some k) → keyFree k s = true) : NewInv ops (listed.setIfInBounds i true) s := by
  intro j oj d hj hn hun hd
  obtain ⟨hij, hun'⟩ := unlisted_set hun
  exact hk d (hI j oj d hj hn hun' hd) fun hni he => hij (hA i j oi oj d hi hj hni hn he hd)
/-- An operation taken first. -/
theorem VAny_first {ops : Array Oper} {Q : St → Prop} {i : Nat} {oi : Oper} (hA : NewApart ops) (hi : ops[i]? = some oi) (hsi : (quietOp oi.op = true ∧ aloneO ops oi = false) ∨ semi oi = true) :
    ∀ (fuel : Nat) (listed : Array Bool) (st s : St), Closed ops listed →
      (∀ j oj, ops[j]? = some oj → j ≠ i → listed.getD j true = false → reachB ops ops.size j i = false → oi.apart ops oj = true ∧ pairOk ops oi oj = true) →
      i ∈ Region.ready .any ops listed → NewInv ops listed st → Eff P G ops oi st s →
      VAny P G ops Q fuel (listed.setIfInBounds i true) s → VAny P G ops Q (fuel + 1) listed st := by
  intro fuel
  induction fuel with
  | zero =>
    intro listed st s _ _ hr _ hy H
    refine ⟨fun h => (by rw [h] at hr; cases hr), fun j hj => ?_⟩
    by_cases hji : j = i
    · subst hji; rw [hi]; exact (vOne_eff hsi).2 ⟨s, hy, H⟩
    · have := ready_mono hj hji
      rw [H.1] at this
      cases this
  | succ fuel ih =>
    intro listed st s hcl hfree hr hI hy H
    refine ⟨fun h => (by rw [h] at hr; cases hr), fun j hj => ?_⟩
    by_cases hji : j = i
    · subst hji; rw [hi]; exact (vOne_eff hsi).2 ⟨s, hy, H⟩
    · have h1 := H.2 j (ready_mono hj hji)
      obtain ⟨hjun, oj, hoj, hall⟩ := mem_ready.1 hj
      rw [hoj] at h1 ⊢
      simp only at h1 ⊢
      obtain ⟨hiun, oi', hoi', halli⟩ := mem_ready.1 hr
      have hnot : reachB ops ops.size j i = false := reach_listed hcl hiun _ _ fun o ho => by rw [hoj] at ho; cases ho; exact hall
      obtain ⟨hap, hpo⟩ := hfree j oj hoj hji hjun hnot
      have hsj : (quietOp oj.op = true ∧ aloneO ops oj = false) ∨ semi oj = true := by
        by_cases hs : semi oj = true
        · exact .inr hs
        · refine .inl ⟨?_, ?_⟩
          · unfold pairOk at hpo
            simp only [semi, Bool.or_eq_true, Bool.and_eq_true, Bool.not_eq_true'] at hpo hs
            rcases hpo with ((((((h | h) | h) | h) | h) | h) | h) | h
            · exact h.1.2
            · exact absurd (.inl (.inl h.1.2)) hs
            · exact h.1.1.2
            · exact absurd (.inl (.inr h.2)) hs
            · exact h.1.2
            · exact absurd (.inl h.1.2) hs
            · exact absurd (.inr h.2) hs
            · exact (pure_quiet (G := G) (st := st) h.1.2).1
          · cases hx : aloneO ops oj with
            | false => rfl
            | true =>
              have hlt : i < ops.size := (Array.getElem?_eq_some_iff.1 hi).1
              rcases alone_spec hx hoj hlt (fun e => hji e.symm) with h' | h'
              · have := reach_listed hcl hjun ops.size i fun o ho => by rw [hoi'] at ho; cases ho; exact halli
                rw [h'] at this; cases this
              · rw [hnot] at h'; cases h'
      obtain ⟨s12, hu, hk⟩ := (vOne_eff hsj).1 h1
      obtain ⟨s2, e1, e2⟩ := diamond hap hpo (fun hn d hd => hI i oi d hi hn hiun hd) (fun hn d hd => hI j oj d hoj hn hjun hd) hy hu
      refine (vOne_eff hsj).2 ⟨s2, e1, ?_⟩
      refine ih (listed.setIfInBounds j true) s2 s12 (hcl.set hj) (fun k ok hk' hki hun hno => ?_) (ready_mono hr (Ne.symm hji)) (hI.step hA hoj fun k hf hn => Eff_keep e1 hf hn) e2 ?_
      · exact hfree k ok hk' hki (unlisted_set hun).2 hno
      · rw [Array.setIfInBounds_comm _ _ hji]
        exact hk
theorem mapUpdate_keep {o : Oper} {k : Nat} {t : TypeId} {m kk v : Operand} (ho : o.op = .mapUpdate t m kk v) (hf : keyFree k st = true) (h : vop P G o st = some out) : keyFree k out.st = true ∧ mentions k out.v = false := by
  obtain ⟨h1, h2, h3⟩ := keyFree_spec hf
  simp only [vop, ho, vMapUpdate] at h
  split at h
  · rename_i key _ _ hm _ _
    split at h
    · obtain ⟨es, _, rfl⟩ := Option.map_eq_some_iff.1 h
      refine ⟨keyFree_mk h1 (fun p hp => ?_) h3, rfl⟩
      rcases setKey_memH hp with rfl | hp
      · exact ⟨fun e => by have := eval_free (G := G) hf m; rw [hm] at this; simp only [mentions, beq_eq_false_iff_ne, ne_eq] at this; exact this e, rfl⟩
      · exact h2 p hp
    · cases h
  · cases h
theorem vOne_keep {all : Array Oper} {o : Oper} {K : St → Prop} (hne : newKeys all ≠ []) (ht : tame all o = true) (h : vOne P G true all o K st) : vOne P G true all o (fun s => K s ∧ ∀ k, keyFree k st = true → (isNew o = true → o.dst ≠ some k) → keyFree k s = true) st := by
  unfold tame at ht
  have hsq : strictQ true all o = true := by
    cases hk : newKeys all with
    | nil => exact absurd hk hne
    | cons k r => simp [strictQ, hk]
  by_cases hs : semi o = true
  · obtain ⟨s, h1, h2⟩ := (vOne_eff (.inr hs)).1 h
    exact (vOne_eff (.inr hs)).2 ⟨s, h1, h2, fun k hf hn => Eff_keep h1 hf hn⟩
  · unfold vOne at h ⊢
    split
    · rename_i hw
      rw [hw] at h
      simp only at h
      split
      · rename_i f ds hc
        rw [hc] at h
        rcases h with ⟨r, own, h1, h3, h2⟩ | ⟨h0, s', h1, h2⟩
        · exact .inl ⟨r, own, h1, fun _ => h3 (by trivial), h2, fun k hf _ => keyFree_finish hf (keyless_free (h3 (by trivial)))⟩
        · rw [hsq] at h0; cases h0
      · rename_i hc
        rw [hc] at h
        simp only at h
        split
        · rename_i f as hch
          rw [hch] at h
          simp only [hcall] at h ⊢
          rw [hsq] at h ⊢
          simp only [if_true] at h ⊢
          obtain ⟨d, ks, h1, h2⟩ := h
          exact ⟨d, ks, h1, h2, fun k hf _ => keyFree_finish hf (keyless_free h1.2.2.2.2)⟩
        · rename_i hch
          rw [hch] at h
          simp only at h
          split
          · rename_i out ho
            rw [ho] at h
            refine ⟨h, fun k hf _ => ?_⟩
            have hkeep : keyFree k out.st = true ∧ mentions k out.v = false := by
              simp only [semi, Bool.or_eq_true] at ht hs
              rcases ht with ((hq | ha) | hn) | hst
              · rw [vop_same hq ho]; exact ⟨hf, vop_free hq hf ho⟩
              · exact absurd (.inl (.inl ha)) hs
              · exact absurd (.inl (.inr hn)) hs
              · split at hst
                · rename_i hop; exact store_keep hop hf ho
                · rename_i hop; exact mapUpdate_keep hop hf ho
                · cases hst
            exact keyFree_finish hkeep.1 hkeep.2
          · rename_i ho
            rw [ho] at h
            exact h
    · rename_i hw
      rw [hw] at h
      exact ⟨h, fun k hf _ => keyFree_finish hf rfl⟩
    · rename_i hw
      rw [hw] at h
      exact h
theorem VAny_lex {ops : Array Oper} {Q : St → Prop} (hA : NewApart ops) (hT : newKeys ops = [] ∨ ∀ o ∈ ops.toList, tame ops o = true) : ∀ (l : List Oper) (k : Nat) (listed : Array Bool) (st : St), (∀ j, l[j]? = ops[k + j]?) → Closed ops listed → NewInv ops listed st →
    lexFrom ops l.length k listed = true → VOps P G true ops l st Q → VAny P G ops Q l.length listed st
  | [], _, _, _, _, _, _, hB, h => ⟨by simpa [lexFrom] using hB, h⟩
  | o :: l, k, listed, st, hl, hcl, hI, hB, h => by
    have h0 : ops[k]? = some o := by simpa using (hl 0).symm
    simp only [List.length_cons, lexFrom, Bool.and_eq_true, h0] at hB
    obtain ⟨⟨hr, hf⟩, hB'⟩ := hB
    have hrk : k ∈ Region.ready .any ops listed := by simpa using hr
    have hnext : ∀ s, NewInv ops (listed.setIfInBounds k true) s → VOps P G true ops l s Q → VAny P G ops Q l.length (listed.setIfInBounds k true) s := fun s hs h =>
      VAny_lex hA hT l (k + 1) _ s (fun j => by have := hl (j + 1); simpa [Nat.add_assoc, Nat.add_comm 1 j] using this) (hcl.set hrk) hs hB' h
    have hspec : ∀ j oj, ops[j]? = some oj → j ≠ k → listed.getD j true = false → reachB ops ops.size j k = false → o.apart ops oj = true ∧ pairOk ops o oj = true := by
      intro j oj hj hne hun hno
      rw [List.all_eq_true] at hf
      have h1 := hf j (List.mem_range.2 (Array.getElem?_eq_some_iff.1 hj).1)
      simp only [hj, Bool.or_eq_true, beq_iff_eq, hne, false_or, hun, Bool.false_eq_true, hno, Bool.and_eq_true] at h1
      exact h1
    -- it is the only one that can be taken
    have only : (∀ j oj, ops[j]? = some oj → j ≠ k → listed.getD j true = false → reachB ops ops.size j k = false → False) → VAny P G ops Q (l.length + 1) listed st := fun hno => by
      refine ⟨fun h' => (by rw [h'] at hrk; cases hrk), fun j hj => ?_⟩
      by_cases hjk : j = k
      · subst hjk
        rw [h0]
        have hkeep : vOne P G true ops o (fun s => VOps P G true ops l s Q ∧ NewInv ops (listed.setIfInBounds j true) s) st := by
          by_cases hT0 : newKeys ops = []
          · refine vOne_mono (fun s hs => ⟨hs, fun i oi d hi hn _ hd => ?_⟩) h
            have : d ∈ newKeys ops := List.mem_filterMap.2 ⟨oi, by rw [Array.mem_toList_iff]; exact Array.mem_of_getElem? hi, by rw [if_pos hn]; exact hd⟩
            rw [hT0] at this; cases this
          · have hT := hT.resolve_left hT0
            refine vOne_mono (fun s hs => ⟨hs.1, hI.step hA h0 hs.2⟩) (vOne_keep hT0 (hT o (by rw [Array.mem_toList_iff]; exact Array.mem_of_getElem? h0)) h)
        exact vOne_mono (fun s hs => hnext s hs.2 hs.1) hkeep
      · obtain ⟨hjun, oj, hoj, hall⟩ := mem_ready.1 hj
        have hnot : reachB ops ops.size j k = false := reach_listed hcl (mem_ready.1 hrk).1 _ _ fun o' ho' => by rw [hoj] at ho'; cases ho'; exact hall
        exact (hno j oj hoj hjk hjun hnot).elim
    by_cases hs : (quietOp o.op = true ∧ aloneO ops o = false) ∨ semi o = true
    · obtain ⟨s, hd, hk⟩ := (vOne_eff hs).1 h
      exact VAny_first hA h0 hs l.length listed st s hcl (fun j oj hj hne hun hno => hspec j oj hj hne hun hno) hrk hI hd (hnext _ (hI.step hA h0 fun k hf hn => Eff_keep hd hf hn) hk)
    · refine only fun j oj hj hne hun hno => ?_
      obtain ⟨_, hpo⟩ := hspec j oj hj hne hun hno
      cases hal : aloneO ops o with
      | true =>
        obtain ⟨_, ok, hok, hallk⟩ := mem_ready.1 hrk
        have hnot2 : reachB ops ops.size k j = false := reach_listed hcl hun _ _ fun o' ho' => by rw [hok] at ho'; cases ho'; exact hallk
        rcases alone_spec hal h0 (Array.getElem?_eq_some_iff.1 hj).1 hne with h' | h'
        · rw [hno] at h'; cases h'
        · rw [hnot2] at h'; cases h'
      | false =>
        unfold pairOk at hpo
        simp only [semi, Bool.or_eq_true, Bool.and_eq_true, Bool.not_eq_true'] at hpo hs
        rcases hpo with ((((((h' | h') | h') | h') | h') | h') | h') | h'
        · exact hs (.inl ⟨h'.1.1, hal⟩)
        · exact hs (.inl ⟨h'.1.1, hal⟩)
        · exact hs (.inr (.inl (.inl h'.1.1.1)))
        · exact hs (.inl ⟨h'.1, hal⟩)
        · exact hs (.inr (.inl (.inr h'.1.1)))
        · exact hs (.inr (.inl h'.1.1))
        · exact hs (.inl ⟨(pure_quiet (G := G) (st := st) h'.1.1).1, hal⟩)
        · exact hs (.inr (.inr h'.1.1))

theorem Rel.drew (hr : Rel P G base R μ st a w) : Rel P G base R μ st a w.drew ∧ Step base R w R w.drew :=
  have hs : Step base R w R w.drew := ⟨(Keep.refl _ _).drew, fun _ _ h => h, fun _ _ h h' => absurd h h', fun _ _ _ => rfl⟩
  ⟨hr.step hs (fun _ _ => rfl) (fun _ _ h h' => absurd h h') hr.rset, hs⟩

theorem nodup_at {α β : Type} {f : α → Option β} : ∀ {l : List α}, (l.filterMap f).Nodup → ∀ (i j : Nat) {x y : α} {d : β}, l[i]? = some x → l[j]? = some y → f x = some d → f y = some d → i = j
  | z :: r, hn, i, j, x, y, d, hi, hj, hx, hy => by
    have tl : (r.filterMap f).Nodup := by
      rw [List.filterMap_cons] at hn
      split at hn
      · exact hn
      · exact (List.nodup_cons.1 hn).2
    have no : ∀ {k : Nat} {w : α}, f z = some d → r[k]? = some w → f w = some d → False := fun hz hk hw => by
      rw [List.filterMap_cons, hz] at hn
      exact (List.nodup_cons.1 hn).1 (List.mem_filterMap.2 ⟨_, List.mem_of_getElem? hk, hw⟩)
    cases i with
    | zero =>
      simp at hi; subst hi
      cases j with
      | zero => rfl
      | succ j => exact (no hx (by simpa using hj) hy).elim
    | succ i =>
      cases j with
      | zero => simp at hj; subst hj; exact (no hy (by simpa using hi) hx).elim
      | succ j => rw [nodup_at tl i j (by simpa using hi) (by simpa using hj) hx hy]
/-- A REGION WHOSE ORDER IS DRAWN. -/
theorem region_any_ok {id : Nat} {ops : Array Oper} {Q : Exit → St → Prop} (hm : P.follows .mixedOrders = true) (hB : lexD ops = true) (hF : freshB ops st = true) (h : VOps P G true ops ops.toList st fun s => Q .normal s) : SW P G (.region id ops true) st Q := by
  intro base R μ a w hr
  obtain ⟨hr', hs'⟩ := hr.drew
  unfold lexD at hB
  rw [Bool.and_eq_true] at hB
  obtain ⟨hN, hB⟩ := hB
  rw [Bool.or_eq_true, List.isEmpty_iff, Bool.and_eq_true, List.all_eq_true, decide_eq_true_eq] at hN
  have mem : ∀ {i oi d}, ops[i]? = some oi → isNew oi = true → oi.dst = some d → d ∈ newKeys ops := fun hi hn hd => List.mem_filterMap.2 ⟨_, by rw [Array.mem_toList_iff]; exact Array.mem_of_getElem? hi, by rw [if_pos hn]; exact hd⟩
  have hA : NewApart ops := fun i j oi oj d hi hj hni hnj hdi hdj => by
    rcases hN with hN | ⟨_, hN⟩
    · have := mem hi hni hdi; rw [hN] at this; cases this
    · exact nodup_at (l := ops.toList) (f := fun o => if isNew o then o.dst else none) hN i j (by simpa using hi) (by simpa using hj) (by rw [if_pos hni]; exact hdi) (by rw [if_pos hnj]; exact hdj)
  have hI : NewInv ops (Array.replicate ops.size false) st := fun j oj d hj hn _ hd => List.all_eq_true.1 hF d (mem hj hn hd)
  have h1 := VAny_lex hA (hN.imp (fun h => h) (fun h => h.1)) ops.toList 0 (Array.replicate ops.size false) st (by simp) (fun k hk => by
    rcases Nat.lt_or_ge k ops.size with h' | h'
    · simp [h'] at hk
    · simp [Nat.not_lt.2 h'] at hk) hI (by simpa using hB) h
  rw [show ops.toList.length = ops.size by simp] at h1
  exact wp_region_any hm (VAny_ok ops.size _ st h1 base R μ a w.drew hr' fun s a' w' R' μ' q1 q2 q3 => ⟨s, R', μ', q1, q2, hs'.trans q3⟩)

theorem VW_ok : ∀ (c : Code) (st : St) (Q : Exit → St → Prop), VW P G c st Q → SW P G c st Q
  | .skip, st, Q, h => fun base R μ a w hr => wp_skip ⟨st, R, μ, h, hr, .refl _ _ _⟩
  | .region id ops draw, st, Q, h => by
    unfold VW at h
    cases draw with
    | true => exact region_any_ok (h.1 rfl).1 (h.1 rfl).2.1 (h.1 rfl).2.2 h.2
    | false =>
      replace h := h.2
      exact fun base R μ a w hr => wp_region_list (VOps_ok ops _ ops.toList st _ h base R μ a w hr fun s a' w' R' μ' q1 q2 q3 => ⟨s, R', μ', q1, q2, q3⟩)
  | .seq x y, st, Q, h => fun base R μ a w hr => wp_seq (wp_mono (VW_ok x st _ h base R μ a w hr) fun e a1 w1 ⟨s, R1, μ1, q1, q2, q3⟩ => by
      cases e with
      | normal => exact wp_mono (VW_ok y s Q q1 base R1 μ1 a1 w1 q2) fun e2 a2 w2 ⟨s2, R2, μ2, p1, p2, p3⟩ => ⟨s2, R2, μ2, p1, p2, q3.trans p3⟩
      | _ => exact ⟨s, R1, μ1, q1, q2, q3⟩)
  | .cond c x y, st, Q, h => fun base R μ a w hr => by
    unfold VW at h
    split at h
    · rename_i t hc
      refine wp_cond (hr.evalBool hc) ?_
      cases t
      · exact VW_ok y st Q h base R μ a w hr
      · exact VW_ok x st Q h base R μ a w hr
    · rename_i hc
      obtain ⟨t, ht⟩ := hr.evalAny hc
      refine wp_cond ht ?_
      cases t
      · exact VW_ok y st Q h.2 base R μ a w hr
      · exact VW_ok x st Q h.1 base R μ a w hr
    · cases h
  | .block id c, st, Q, h => fun base R μ a w hr => wp_block (wp_mono (VW_ok c st _ h base R μ a w hr) fun e a1 w1 ⟨s, R1, μ1, q1, q2, q3⟩ => by
      cases e with
      | exit id' =>
        simp only [Exit.inBlock]
        simp only at q1
        by_cases hid : id' = id
        · rw [if_pos hid] at q1 ⊢; exact ⟨s, R1, μ1, q1, q2, q3⟩
        · rw [if_neg hid] at q1 ⊢; exact ⟨s, R1, μ1, q1, q2, q3⟩
      | _ => exact ⟨s, R1, μ1, q1, q2, q3⟩)
  | .loop c, st, Q, h => h
  | .exit id, st, Q, h => fun base R μ a w hr => wp_exit ⟨st, R, μ, h, hr, .refl _ _ _⟩
  | .ret, st, Q, h => fun base R μ a w hr => wp_ret ⟨st, R, μ, h, hr, .refl _ _ _⟩
  | .rangeFunc .., _, _, h => by simp [VW] at h
  | .scope c, st, Q, h => fun base R μ a w hr => wp_scope_straight (wp_mono (VW_ok c st _ h base R μ a w hr) fun e a1 w1 ⟨s, R1, μ1, q1, q2, q3⟩ => by
      cases e with
      | goto l => exact q1.elim
      | _ => exact ⟨s, R1, μ1, q1, q2, q3⟩)
  | .label l, st, Q, h => fun base R μ a w hr => wp_label ⟨st, R, μ, h, hr, .refl _ _ _⟩
  | .goto .., _, _, h => by simp [VW] at h
end
end Go.VM
