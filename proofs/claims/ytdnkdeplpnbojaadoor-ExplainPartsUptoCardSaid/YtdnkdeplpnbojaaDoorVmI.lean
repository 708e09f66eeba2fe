/- The abstract machine on plain data: a run of it on given data, by the kernel: what it gives is what the function answers. No condition. -/
import Derived.Test.YtdnkdeplpnbojaaDoorVmH
import Derived.LoopN
set_option linter.unusedVariables false
set_option linter.unusedSimpArgs false
set_option linter.unusedSectionVars false
namespace Go.VM
open Go Go.RowKit

section
variable {P : Program} {G : GT} {st : St}

theorem SW.seq {x y : Code} {Q : Exit → St → Prop} (h : SW P G x st fun e s => match e with
    | .normal => SW P G y s Q
    | e => Q e s) : SW P G (.seq x y) st Q := fun base R μ a w hr => wp_seq (wp_mono (h base R μ a w hr) fun e a1 w1 ⟨s, R1, μ1, q1, q2, q3⟩ => by
      cases e with
      | normal => exact wp_mono (q1 base R1 μ1 a1 w1 q2) fun e2 a2 w2 ⟨s2, R2, μ2, p1, p2, p3⟩ => ⟨s2, R2, μ2, p1, p2, q3.trans p3⟩
      | _ => exact ⟨s, R1, μ1, q1, q2, q3⟩)
theorem SW.cond {c : Operand} {x y : Code} {Q : Exit → St → Prop} {t : Bool} (hc : st.eval G c = .d (.bool t)) (h : SW P G (if t then x else y) st Q) : SW P G (.cond c x y) st Q := fun base R μ a w hr => by
  refine wp_cond (hr.evalBool hc) ?_
  cases t
  · exact h base R μ a w hr
  · exact h base R μ a w hr
theorem SW.block {id : Nat} {c : Code} {Q : Exit → St → Prop} (h : SW P G c st fun e s => match e with
    | .exit id' => if id' = id then Q .normal s else Q (.exit id') s
    | e => Q e s) : SW P G (.block id c) st Q := fun base R μ a w hr => wp_block (wp_mono (h base R μ a w hr) fun e a1 w1 ⟨s, R1, μ1, q1, q2, q3⟩ => by
      cases e with
      | exit id' =>
        simp only [Exit.inBlock]
        simp only at q1
        by_cases hid : id' = id
        · rw [if_pos hid] at q1 ⊢; exact ⟨s, R1, μ1, q1, q2, q3⟩
        · rw [if_neg hid] at q1 ⊢; exact ⟨s, R1, μ1, q1, q2, q3⟩
      | _ => exact ⟨s, R1, μ1, q1, q2, q3⟩)

/-- A loop, unrolled a given number of times. -/
def SRounds (P : Program) (G : GT) (c : Code) (Q : Exit → St → Prop) : Nat → St → Prop
  | 0, _ => False
  | n + 1, st => SW P G c st fun e s => match e with
    | .normal => SRounds P G c Q n s
    | e => Q e s
theorem SW.rounds {c : Code} {Q : Exit → St → Prop} (n : Nat) (h : SRounds P G c Q n st) : SW P G (.loop c) st Q := fun base R μ a w hr => by
  refine wp_loop_rounds n ?_
  induction n generalizing st R μ a w with
  | zero => exact h.elim
  | succ n ih =>
    refine wp_mono (h base R μ a w hr) fun e a1 w1 ⟨s, R1, μ1, q1, q2, q3⟩ => ?_
    cases e with
    | normal =>
      have := ih q1 R1 μ1 a1 w1 q2
      -- what is reached from the later state is reached from the first
      refine rounds_mono n ?_ this
      rintro e2 a2 w2 ⟨s2, R2, μ2, p1, p2, p3⟩
      exact ⟨s2, R2, μ2, p1, p2, q3.trans p3⟩
    | _ => exact ⟨s, R1, μ1, q1, q2, q3⟩
where rounds_mono {P : Program} {c : Code} {Q Q' : Exit → Act → World → Prop} : ∀ (n : Nat) {a : Act} {w : World}, (∀ e a w, Q e a w → Q' e a w) → Code.rounds P c Q n a w → Code.rounds P c Q' n a w
  | 0, _, _, _, h => h.elim
  | n + 1, a, w, hq, h => by
    refine wp_mono h fun e a1 w1 q => ?_
    cases e with
    | normal => exact rounds_mono n hq q
    | _ => exact hq _ _ _ q
end

/-! ### The run -/

section
variable (P : Program) (G : GT)

abbrev CallF := FuncId → List D → Option (DV × Option TypeId)
def runOps (call : CallF) (q : Bool) (all : Array Oper) : List Oper → St → Option St
  | [], st => some st
  | o :: rest, st =>
    match wantedD o all st.tmps with
    | some true =>
      match callOf G o st with
      | some (f, ds) =>
        match call f ds with
        | some (r, own) => runOps call q all rest (finish st o.dst r (if q then .no else ownOA own))
        | none => none
      | none =>
        match vop P G o st with
        | some out => runOps call q all rest (finish out.st o.dst out.v (actQ q all o out.v out.act))
        | none => none
    | some false => runOps call q all rest (finish st o.dst (.tup []) .no)
    | none => none
def runLoop (body : St → Option (Exit × St)) : Nat → St → Option (Exit × St)
  | 0, _ => none
  | n + 1, st => match body st with
    | some (.normal, s) => runLoop body n s
    | x => x
def runC (call : CallF) (n : Nat) : Code → St → Option (Exit × St)
  | .skip, st => some (.normal, st)
  | .region _ ops draw, st =>
    if !draw || (P.follows .mixedOrders && lexD ops) then (runOps P G call draw ops ops.toList st).map fun s => (.normal, s) else none
  | .seq x y, st => match runC call n x st with
    | some (.normal, s) => runC call n y s
    | x => x
  | .cond c x y, st =>
    match st.eval G c with
    | .d (.bool true) => runC call n x st
    | .d (.bool false) => runC call n y st
    | _ => none
  | .block id c, st => match runC call n c st with
    | some (.exit id', s) => if id' = id then some (.normal, s) else some (.exit id', s)
    | x => x
  | .loop c, st => runLoop (runC call n c) n st
  | .exit id, st => some (.exit id, st)
  | .ret, st => some (.ret, st)
  | _, _ => none
/-- What the function answers; 'lib': what is known of some functions. -/
def evalF (lib : CallF) : Nat → CallF
  | 0, f, ds => lib f ds
  | n + 1, f, ds =>
    match lib f ds with
    | some x => some x
    | none =>
      match P.funcs[f]? with
      | some fn =>
        match fn.body with
        | some c =>
          if fn.name == "runtime.NumGoroutine" then none else
          match runC P G (evalF lib n) (n + 1) c (initSt ds fn.ntmps) with
          | some (.normal, s) => (vres P s fn.results.toList).map fun r => (r, vown s fn.results.toList)
          | some (.ret, s) => (vres P s fn.results.toList).map fun r => (r, vown s fn.results.toList)
          | _ => none
        | none => none
      | none => none
end

section
variable {P : Program} {G : GT}
def CallOk (P : Program) (G : GT) (call : CallF) : Prop := ∀ f ds r own, call f ds = some (r, own) → Enters P f ∧ CS P G f ds r own

theorem runOps_ok {call : CallF} (hc : CallOk P G call) {q : Bool} {all : Array Oper} : ∀ {l : List Oper} {st s : St}, runOps P G call q all l st = some s → ∀ K : St → Prop, K s → VOps P G q all l st K
  | [], st, s, h, K, hk => by simp [runOps] at h; subst h; exact hk
  | o :: rest, st, s, h, K, hk => by
    unfold runOps at h
    unfold VOps vOne
    split at h
    · rename_i hw
      simp only [hw]
      split at h
      · rename_i f ds hcall
        simp only [hcall]
        split at h
        · rename_i r own hr
          exact ⟨r, own, hc f ds r own hr, runOps_ok hc h K hk⟩
        · cases h
      · rename_i hcall
        simp only [hcall]
        split at h
        · rename_i out ho
          simp only [ho]
          exact runOps_ok hc h K hk
        · cases h
    · rename_i hw
      simp only [hw]
      exact runOps_ok hc h K hk
    · cases h

theorem runC_ok {call : CallF} (hc : CallOk P G call) {n : Nat} : ∀ (c : Code) {st : St} {e : Exit} {s : St}, runC P G call n c st = some (e, s) → ∀ Q : Exit → St → Prop, Q e s → SW P G c st Q
  | .skip, st, e, s, h, Q, hq => by simp [runC] at h; obtain ⟨rfl, rfl⟩ := h; exact VW_ok .skip _ Q hq
  | .region id ops draw, st, e, s, h, Q, hq => by
    unfold runC at h
    split at h
    · rename_i hd
      simp only [Option.map_eq_some_iff, Prod.mk.injEq] at h
      obtain ⟨s', h1, rfl, rfl⟩ := h
      refine VW_ok (.region id ops draw) st Q ⟨fun hdr => ?_, runOps_ok hc h1 _ hq⟩
      subst hdr
      simpa using hd
    · cases h
  | .seq x y, st, e, s, h, Q, hq => by
    unfold runC at h
    refine SW.seq ?_
    split at h
    · rename_i s1 h1
      exact runC_ok hc x h1 _ (runC_ok hc y h Q hq)
    · rename_i h1
      refine runC_ok hc x h _ ?_
      cases e with
      | normal => exact absurd h (h1 s)
      | _ => exact hq
  | .cond c x y, st, e, s, h, Q, hq => by
    unfold runC at h
    split at h
    · rename_i hcv; exact SW.cond hcv (runC_ok hc x h Q hq)
    · rename_i hcv; exact SW.cond hcv (runC_ok hc y h Q hq)
    · cases h
  | .block id c, st, e, s, h, Q, hq => by
    unfold runC at h
    refine SW.block ?_
    split at h
    · rename_i id' s1 h1
      refine runC_ok hc c h1 _ ?_
      split at h
      · rename_i hid
        simp at h; obtain ⟨rfl, rfl⟩ := h
        simp only [hid, if_true]; exact hq
      · rename_i hid
        simp at h; obtain ⟨rfl, rfl⟩ := h
        simp only [if_neg hid]; exact hq
    · rename_i h1
      refine runC_ok hc c h _ ?_
      cases e with
      | exit id' => exact absurd h (h1 id' s)
      | _ => exact hq
  | .loop c, st, e, s, h, Q, hq => by
    unfold runC at h
    refine SW.rounds n ?_
    have ih := fun {st : St} {e : Exit} {s : St} => runC_ok (n := n) hc c (st := st) (e := e) (s := s)
    have main : ∀ (m : Nat) (st : St), runLoop (runC P G call n c) m st = some (e, s) → SRounds P G c Q m st := by
      intro m
      induction m with
      | zero => intro st h; cases h
      | succ m im =>
        intro st h
        unfold runLoop at h
        unfold SRounds
        split at h
        · rename_i s1 h1
          exact ih h1 _ (im s1 h)
        · rename_i h1
          refine ih h _ ?_
          cases e with
          | normal => exact absurd h (h1 s)
          | _ => exact hq
    exact main n st h
  | .exit id, st, e, s, h, Q, hq => by simp [runC] at h; obtain ⟨rfl, rfl⟩ := h; exact VW_ok (.exit id) _ Q hq
  | .ret, st, e, s, h, Q, hq => by simp [runC] at h; obtain ⟨rfl, rfl⟩ := h; exact VW_ok .ret _ Q hq
  | .rangeFunc .., _, _, _, h, _, _ => by simp [runC] at h
  | .scope .., _, _, _, h, _, _ => by simp [runC] at h
  | .label .., _, _, _, h, _, _ => by simp [runC] at h
  | .goto .., _, _, _, h, _, _ => by simp [runC] at h

theorem CS.of_SW {f : FuncId} {fn : Func} {c : Code} {ds : List D} {r : DV} {own : Option TypeId} (hf : P.funcs[f]? = some fn) (hb : fn.body = some c)
    (h : SW P G c (initSt ds fn.ntmps) fun e s => (e = .normal ∨ e = .ret) ∧ vres P s fn.results.toList = some r ∧ vown s fn.results.toList = own) : CS P G f ds r own := by
  intro w R args hg hR hl hv
  refine calls_of_wp hf hb ?_
  have hrel := Rel.init (P := P) (G := G) fn hg hR hl hv
  refine wp_mono (h w.heap.size R _ _ w hrel) fun e a' w' ⟨s, R', μ', ⟨he, hres, hown⟩, hr', hs⟩ => ?_
  obtain ⟨v, hv1, hv2⟩ := vres_ok hr' hres
  have hpost : a'.defers = [] ∧ ∃ v, (results fn a'.tmps).run P w' = .ok v w' ∧ ∃ v' R', Ending.returned v = .returned v' ∧ (∀ μ, TV R' μ w' v' r) ∧ Step w.heap.size R w R' w' ∧ (∀ b o, R' b o → b < w'.heap.size) ∧ (∀ e, own = some e → OwnSl P w.heap.size R' w' e v') :=
    ⟨hr'.defers, v, hv1, v, R', rfl, fun μ => hv2 μ, hs, hr'.rset, fun e he' => by
      rw [he'] at hown
      exact vown_ok hr' hown hv1⟩
  rcases he with rfl | rfl
  · exact hpost
  · exact hpost

theorem evalF_ok {lib : CallF} (hl : CallOk P G lib) : ∀ n, CallOk P G (evalF P G lib n)
  | 0, f, ds, r, own, h => hl f ds r own h
  | n + 1, f, ds, r, own, h => by
    unfold evalF at h
    split at h
    · rename_i x hx
      cases h
      exact hl f ds r own hx
    · split at h
      · rename_i fn hf
        split at h
        · rename_i c hb
          split at h
          · cases h
          · rename_i hn
            refine ⟨⟨fn, hf, by simp [hb], by simpa using hn⟩, ?_⟩
            refine CS.of_SW hf hb ?_
            split at h
            · rename_i s hrun
              simp only [Option.map_eq_some_iff, Prod.mk.injEq] at h
              obtain ⟨r', h1, rfl, h2⟩ := h
              exact runC_ok (evalF_ok hl n) c hrun _ ⟨.inl rfl, h1, h2⟩
            · rename_i s hrun
              simp only [Option.map_eq_some_iff, Prod.mk.injEq] at h
              obtain ⟨r', h1, rfl, h2⟩ := h
              exact runC_ok (evalF_ok hl n) c hrun _ ⟨.inr rfl, h1, h2⟩
            · cases h
        · cases h
      · cases h

def noLib : CallF := fun _ _ => none
theorem noLib_ok : CallOk P G noLib := fun _ _ _ _ h => by cases h
/-- A CALL ON GIVEN DATA, RUN BY THE KERNEL. -/
theorem CS.run (n : Nat) {f : FuncId} {ds : List D} {r : DV} {own : Option TypeId} (h : evalF P G noLib n f ds = some (r, own)) : CS P G f ds r own := (evalF_ok noLib_ok n f ds r own h).2
end
end Go.VM
