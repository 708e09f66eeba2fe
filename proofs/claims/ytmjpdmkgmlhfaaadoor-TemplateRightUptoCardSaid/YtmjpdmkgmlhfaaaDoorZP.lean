/- Joined texts. The nodes of a predicate are yielded one after the other: the walk of visit, at every loop body. The check of a predicate: every node is checked, in the order of visit. Predicates: the error of a node; the walk of the program's check. The sorts of predicates: the walks of the reference. No condition. -/
import Derived.RangeFuncNested
import Derived.RangeFuncBound
import Derived.RangeFuncCalls
import Derived.RangeFuncLeaves
import Derived.Shelf.Abstract
import Derived.WalkKit
import Derived.OwnWalkIn
import Derived.TacticsInMore
import Derived.LoopNIn
import Derived.LoopIn
import Derived.Test.YtmjpdmkgmlhfaaaDoorPa
import Derived.Test.YtmjpdmkgmlhfaaaDoorProg
import Derived.Test.YtmjpdmkgmlhfaaaDoorPc
import Derived.Test.YtmjpdmkgmlhfaaaDoorZ7
import Derived.Test.YtmjpdmkgmlhfaaaDoorZA
section
set_option linter.unusedVariables false
set_option linter.unusedSimpArgs false
set_option linter.unusedSectionVars false
namespace Go.Proofs.YtmjpdmkgmlhfaaaDoor
open Go Go.VM Go.RowKit Go.Shelf
set_option maxRecDepth 100000
set_option maxHeartbeats 4000000
attribute [local go_sem] Oper.semAt_some
/-- Blocks other than those of X stay. -/
structure KeepXk (X : Nat → Prop) (W W' : World) : Prop where
  os : W'.os = W.os
  tape : W'.tape = W.tape
  output : W'.output = W.output
  size : W.heap.size ≤ W'.heap.size
  block : ∀ k, k < W.heap.size → ¬ X k → W'.heap[k]? = W.heap[k]?
theorem KeepXk.refl (X : Nat → Prop) (W : World) : KeepXk X W W := ⟨rfl, rfl, rfl, Nat.le_refl _, fun _ _ _ => rfl⟩
theorem KeepXk.trans {X : Nat → Prop} {A B C : World} (h : KeepXk X A B) (k : KeepXk X B C) : KeepXk X A C :=
  ⟨k.os.trans h.os, k.tape.trans h.tape, k.output.trans h.output, Nat.le_trans h.size k.size, fun i hi hx => (k.block i (Nat.lt_of_lt_of_le hi h.size) hx).trans (h.block i hi hx)⟩
abbrev NoX : Nat → Prop := fun _ => False
theorem KeepXk.up {X : Nat → Prop} {A B : World} (h : KeepXk NoX A B) : KeepXk X A B := ⟨h.os, h.tape, h.output, h.size, fun k hk _ => h.block k hk fun e => e⟩
theorem KeepXk.cell {X : Nat → Prop} {A B : World} (h : KeepXk X A B) {b o : Nat} (hb : b < A.heap.size) (hx : ¬ X b) : B.cell? ⟨b, o, none⟩ = A.cell? ⟨b, o, none⟩ := by
  unfold World.cell?
  rw [h.block b hb hx]
theorem KeepXk.alloc {X : Nat → Prop} {A B : World} (h : KeepXk X A B) (o : Obj) : KeepXk X A (B.alloc o) :=
  h.trans ⟨rfl, rfl, rfl, by simp, fun k hk _ => by
    show (B.heap.push o)[k]? = _
    rw [Array.getElem?_push, if_neg (by omega)]⟩
/-- What a predicate's value looks like. -/
theorem V_pr {R : Nat → Nat → Prop} {w : World} {v : Value} {p : Pr} (h : V R w v (.agg (prC p))) :
    ∃ (ao : Option Addr) (cap : Nat) (nm : ByteArray), v = .agg #[.int .i64 p.op, .string nm, .int .i64 p.n, .slice ao p.kids.length cap] ∧
      ∀ (i : Nat) (hi : i < p.kids.length), ∃ b o, ao = some ⟨b, o, none⟩ ∧ ∃ f : Nat → Value, (∀ j, j < 4 → R b (o + i * 4 + j) ∧ w.cell? ⟨b, o + i * 4 + j, none⟩ = some (f j)) ∧ V R w (.agg #[f 0, f 1, f 2, f 3]) (.agg (prC p.kids[i])) := by
  obtain ⟨op, nm, n, ks⟩ := p
  rw [prC_eq] at h
  cases h with
  | agg cs _ h1 h2 h3 =>
    obtain ⟨l⟩ := cs
    match l, h1 with
    | [c0, c1, c2, c3], _ =>
      have g0 := h3 0 _ rfl
      have g1 := h3 1 _ rfl
      have g2 := h3 2 _ rfl
      have g3 := h3 3 _ rfl
      simp at g0 g1 g2 g3
      obtain ⟨es, hes⟩ : ∃ es, ks.map prC = es := ⟨_, rfl⟩
      simp only [hes] at g3
      cases g0
      cases g1
      cases g2
      have hlen : es.length = ks.length := by rw [← hes]; simp
      cases g3 with
      | emp ao cap =>
        have h0 : ks = [] := by simpa using hes
        subst h0
        exact ⟨ao, cap, _, rfl, fun i hi => by simp at hi⟩
      | sl b o m cap size es f k1 k2 k3 k4 k5 k6 k7 =>
        have hm : m = ks.length := by omega
        subst hm
        refine ⟨_, cap, _, rfl, fun i hi => ⟨b, o, rfl, f i, ?_⟩⟩
        simp only at hi
        have hg : es[i]? = some (prC ks[i]) := by rw [← hes]; simp [hi]
        have hs : size = 4 := by
          have := k4 _ (List.mem_of_getElem? hg)
          rw [prC_eq] at this
          simpa using this.symm
        subst hs
        refine ⟨fun j hj => k5 i j hi hj, ?_⟩
        have q : ∀ (j : Nat) (d : D), (prC ks[i])[j]? = some d → V R w (f i j) d := fun j d hd => k7 i j _ d hg hd
        have q1 : ∀ (j : Nat) (d : D), (prC ks[i])[j]? = some d → d.one = true := fun j d hd => k6 i j _ d hg hd
        refine .agg _ _ (by rw [prC_eq]; rfl) q1 fun j d hd => ?_
        have hj : j < 4 := by
          have := (List.getElem?_eq_some_iff.1 hd).1
          rw [prC_eq] at this
          simpa using this
        have hv := q j d hd
        match j, hj with
        | 0, _ => exact hv
        | 1, _ => exact hv
        | 2, _ => exact hv
        | 3, _ => exact hv
mutual
/-- The nodes, each before those of its kids. -/
def preP : Pr → List Pr
  | ⟨op, nm, n, l⟩ => ⟨op, nm, n, l⟩ :: prePs l
def prePs : List Pr → List Pr
  | [] => []
  | p :: r => preP p ++ prePs r
end
theorem preP_eq (p : Pr) : preP p = p :: prePs p.kids := by cases p; rfl
theorem prePs_app : ∀ a b : List Pr, prePs (a ++ b) = prePs a ++ prePs b
  | [], b => by simp [prePs]
  | p :: a, b => by simp only [List.cons_append, prePs, prePs_app a b, List.append_assoc]
theorem prePs_take {l : List Pr} {i : Nat} (h : i < l.length) : prePs (l.take (i + 1)) = prePs (l.take i) ++ preP l[i] := by
  rw [List.take_succ_eq_append_getElem h, prePs_app]
  simp [prePs]
theorem prePs_split (l : List Pr) (i : Nat) : prePs l = prePs (l.take i) ++ prePs (l.drop i) := by rw [← prePs_app, List.take_append_drop]
/-- What a call of yield does: it goes on, or it has said no more. -/
def Yields (P : Program) (L : List Pr) (l : Nat) (X : Nat → Prop) (R : Nat → Nat → Prop) (w0 : World) (J Jx : List Pr → World → Prop) : Prop :=
  ∀ (m : Nat) (pre : List Pr) (v : Value) (p : Pr) (W : World), pre ++ [p] <+: L → V R w0 v (.agg (prC p)) → KeepXk X w0 W → J pre W → YieldAt Fence.wide m P l #[v] W fun e W' =>
    (e = .returned (.bool true) ∧ J (pre ++ [p]) W' ∧ KeepXk X W W') ∨ (e = .returned (.bool false) ∧ Jx (pre ++ [p]) W' ∧ KeepXk X W W')
theorem cell_box (W : World) (cs : Array Value) (T : TypeId) {j : Nat} {v : Value} (h : cs[j]? = some v) : (W.alloc (.cells cs T)).cell? ⟨W.heap.size, j, none⟩ = some v := by
  unfold World.cell?
  rw [World.alloc_heap_new]
  simp [h]
end Go.Proofs.YtmjpdmkgmlhfaaaDoor
end

section
set_option linter.unusedVariables false
set_option linter.unusedSimpArgs false
set_option linter.unusedSectionVars false
namespace Go.Proofs.YtmjpdmkgmlhfaaaDoor
open Go Go.VM Go.RowKit Go.Shelf
set_option maxRecDepth 100000
set_option maxHeartbeats 4000000
attribute [local go_sem] Oper.semAt_some
theorem glob_keep {G : GT} {R : Nat → Nat → Prop} {w0 w : World} (h : Glob G (From w0.heap.size) R w0) (hs : w0.heap.size ≤ w.heap.size) (hR : ∀ b o, R b o → b < w0.heap.size) (hb : ∀ k, k < w0.heap.size → w.heap[k]? = w0.heap[k]?) : Glob G (From w.heap.size) R w := by
  intro g cs hg
  obtain ⟨h1, h2, arr, T, fr, h3, h4⟩ := h g cs hg
  have hl : g < w0.heap.size := by simpa [From] using h2
  have hc : ∀ b o, R b o → w.cell? ⟨b, o, none⟩ = w0.cell? ⟨b, o, none⟩ := fun b o hbo => by
    unfold World.cell?
    rw [hb b (hR b o hbo)]
  refine ⟨fun j d hj => ?_, by simp only [From]; omega, arr, T, fr, (hb g hl).trans h3, h4⟩
  obtain ⟨a1, a2, v, a3, a4⟩ := h1 j d hj
  exact ⟨a1, a2, v, (hc _ _ a2).trans a3, a4.step (fun _ _ h => h) hc⟩
theorem KeepXk.of_step {R R' : Nat → Nat → Prop} {w w' : World} (h : Step (From w.heap.size) R w R' w') : KeepXk NoX w w' :=
  ⟨h.below.os, h.below.tape, h.below.output, h.below.size, fun k hk _ => h.below.block k (by simp only [From]; omega)⟩
/-- A contract that gives a number, for a call within a round. -/
theorem cs_wide {P : Program} {G : GT} {f : FuncId} {ds : List D} {k : IntKind} {z : Int} {own : Option TypeId} (h : CS P G f ds (.d (.int k z)) own) {w : World} {R : Nat → Nat → Prop} {args : Array Value} (m : Nat) (hg : Glob G (From w.heap.size) R w) (hR : ∀ b o, R b o → b < w.heap.size) (hs : args.size = ds.length)
    (hv : ∀ (i : Nat) (d : D), ds[i]? = some d → V R w (args.getD i undef) d) : CallsIn Fence.wide m P f args w fun e w' => e = .returned (.int k z) ∧ KeepXk NoX w w' :=
  callsIn_wide.2 ((h w R args hg hR hs hv).mono fun e w' ⟨v, R', he, hv', hst, _, _⟩ => by
    cases hv' id with
    | d v x hvx =>
      cases hvx
      exact ⟨he, KeepXk.of_step hst⟩)
theorem KeepXk.weaken {X Y : Nat → Prop} {A B : World} (h : KeepXk X A B) (hXY : ∀ k, X k → Y k) : KeepXk Y A B := ⟨h.os, h.tape, h.output, h.size, fun k hk hy => h.block k hk fun hx => hy (hXY k hx)⟩
theorem KeepXk.putObj {X : Nat → Prop} (A : World) {l : Nat} (hl : X l) (o : Obj) : KeepXk X A (A.putObj l o) := ⟨rfl, rfl, rfl, by simp, fun k _ hx => World.putObj_heap_other fun e => hx (e ▸ hl)⟩
theorem keep_new {X : Nat → Prop} {A B : World} (h : KeepXk X A B) (hX : ∀ k, X k → A.heap.size ≤ k) : KeepXk NoX A B := ⟨h.os, h.tape, h.output, h.size, fun k hk _ => h.block k hk fun hx => by have := hX k hx; omega⟩
theorem box_at {W : World} {b : Nat} {v : Value} {T : TypeId} (h : W.heap[b]? = some (.cells #[v] T (0, 0))) : W.cell? ⟨b, 0, none⟩ = some v ∧ W.frozen? ⟨b, 0, none⟩ = false := by
  unfold World.cell? World.frozen?
  rw [h]
  simp
theorem row_at {W : World} {b : Nat} {cs : Array Value} {T : TypeId} (h : W.heap[b]? = some (.cells cs T (0, 0))) (j : Nat) (v : Value) (hj : cs[j]? = some v) : W.cell? ⟨b, j, none⟩ = some v := by
  unfold World.cell?
  rw [h]
  simp [hj]
theorem set_at {W : World} {b : Nat} {v : Value} {T : TypeId} (h : W.heap[b]? = some (.cells #[v] T (0, 0))) (u : Value) : (W.setCell ⟨b, 0, none⟩ u).heap[b]? = some (.cells #[u] T (0, 0)) := by
  obtain ⟨hlt, hh⟩ := Array.getElem?_eq_some_iff.1 h
  show (W.heap.modify b _)[b]? = _
  rw [Array.getElem?_eq_getElem (by rw [Array.size_modify]; exact hlt), Array.getElem_modify_self, hh]
  simp
theorem KeepXk.set {X : Nat → Prop} (A : World) {b : Nat} (hl : X b) (u : Value) : KeepXk X A (A.setCell ⟨b, 0, none⟩ u) := ⟨rfl, rfl, rfl, by show A.heap.size ≤ (A.heap.modify _ _).size; rw [Array.size_modify]; exact Nat.le_refl _, fun k _ hx => Below.heap_setCell A ⟨b, 0, none⟩ u k fun e => hx (by rw [show k = b from e]; exact hl)⟩
/-- The first error of the nodes. -/
def firstE (e : Pr → Int) : List Pr → Int
  | [] => 0
  | p :: r => if e p = 0 then firstE e r else e p
theorem firstE_zero {e : Pr → Int} : ∀ {l : List Pr}, (∀ q ∈ l, e q = 0) → firstE e l = 0
  | [], _ => rfl
  | p :: r, h => by
    rw [firstE, if_pos (h p (by simp))]
    exact firstE_zero fun q hq => h q (by simp [hq])
theorem firstE_at {e : Pr → Int} {p : Pr} : ∀ {l r : List Pr}, (∀ q ∈ l, e q = 0) → e p ≠ 0 → firstE e (l ++ p :: r) = e p
  | [], r, _, hp => by simp [firstE, hp]
  | q :: l, r, h, hp => by
    rw [List.cons_append, firstE, if_pos (h q (by simp))]
    exact firstE_at (fun q hq => h q (by simp [hq])) hp
def chkP (e : Pr → Int) (p : Pr) : Int := if 400 < nodP p then 7 else if 40 < depP p then 8 else firstE e (preP p)
end Go.Proofs.YtmjpdmkgmlhfaaaDoor
end

section
set_option linter.unusedVariables false
set_option linter.unusedSimpArgs false
set_option linter.unusedSectionVars false
namespace Go.Proofs.YtmjpdmkgmlhfaaaDoor
open Go Go.VM
set_option maxRecDepth 100000
set_option maxHeartbeats 8000000
variable {G : GT}
def namB (op : Int) : Bool := decide (op = 3) || (decide (op = 4) || decide (op = 5))
def leastK (op : Int) : Int := if op = 1 ∨ op = 2 ∨ op = 3 then 0 else if op = 4 ∨ op = 5 then 1 else if op = 9 ∨ op = 14 then 1 else 2
def mostK (op : Int) : Int := if op = 1 ∨ op = 2 ∨ op = 3 then 0 else if op = 4 ∨ op = 5 then 24 else if op = 9 ∨ op = 14 then 1 else 2
def headK (l : List Pr) : Int := match l with
  | [] => 1
  | k :: _ => k.op
/-- A name that a node may have although it is none. -/
def freeN (op : Int) (nm : Nm) : Bool := (decide (op = 3) && decide (nm = [118])) || (decide (op = 4) && (decide (nm = [116, 97, 103]) || decide (nm = [118, 97, 108])))
def argE (op : Int) (nm : Nm) (n : Int) (len : Int) : Bool := (!namB op && !decide (nm = [])) || (!decide (op = 1) && !decide (op = 2) && !decide (n = 0)) || decide (len < leastK op) || decide (mostK op < len)
def rangeE (op n : Int) : Bool := (decide (op = 1) && !inB n) || (decide (op = 2) && !decide (n = 0) && !decide (n = 1))
/-- The error of a node. -/
def nodeE (p : Pr) : Int :=
  if p.op < 1 ∨ 18 < p.op then 1
  else if argE p.op p.name p.n p.kids.length then 1
  else if rangeE p.op p.n then 2
  else if namB p.op && !coreB p.name && !freeN p.op p.name then 3
  else if p.op = 8 ∧ headK p.kids ≠ 1 then 6
  else 0
theorem named_ops {op : Int} (h : namB op = true) : op = 3 ∨ op = 4 ∨ op = 5 := by simpa [namB] using h
theorem named_not {op : Int} (h : namB op = false) : ¬ op = 3 ∧ ¬ op = 4 ∧ ¬ op = 5 := by simpa [namB] using h
/-! ### Sizes -/
/-! ### The check -/
mutual
theorem preP_nod : ∀ (p q : Pr), q ∈ preP p → nodP q ≤ nodP p
  | ⟨op, nm, n, l⟩, q, h => by
    simp only [preP, List.mem_cons] at h
    rcases h with rfl | h
    · exact Nat.le_refl _
    · have := prePs_nod l q h
      simp only [nodP]
      omega
theorem prePs_nod : ∀ (l : List Pr) (q : Pr), q ∈ prePs l → nodP q ≤ nodPs l
  | [], q, h => by simp [prePs] at h
  | t :: r, q, h => by
    simp only [prePs, List.mem_append] at h
    simp only [nodPs]
    rcases h with h | h
    · have := preP_nod t q h
      omega
    · have := prePs_nod r q h
      omega
end
/-- The error of a predicate. -/
def chkE (p : Pr) : Int := chkP nodeE p
end Go.Proofs.YtmjpdmkgmlhfaaaDoor
end

section
set_option linter.unusedVariables false
set_option linter.unusedSimpArgs false
set_option linter.unusedSectionVars false
namespace Go.Proofs.YtmjpdmkgmlhfaaaDoor
open Go Go.VM
set_option maxRecDepth 100000
set_option maxHeartbeats 8000000
variable {G : GT}
/-! ### The check of the reference -/
theorem firstE_app {e : Pr → Int} : ∀ (a b : List Pr), firstE e (a ++ b) = if firstE e a = 0 then firstE e b else firstE e a
  | [], b => by simp [firstE]
  | p :: a, b => by
    rw [List.cons_append, firstE, firstE, firstE_app a b]
    by_cases h : e p = 0
    · simp only [h, if_true]
    · simp only [h, if_false]
theorem ent_r7_named : VM.Enters Tryd.prog 148 := VM.Enters.mk Tryd.func148 rfl
theorem r7_named_cs (op : Int) : CS Tryd.prog G 148 [.int .i64 op] (.d (.bool (namB op))) none := by
  refine CS.of_VK Tryd.func148 rfl Tryd.ntmps148 rfl ?_
  by_cases h3 : op = 3
  · simp [h3, namB]
  · by_cases h4 : op = 4
    · simp [h4, namB]
    · simp [h3, h4, namB]
def kidsB (op len : Int) : Bool := !(decide (len < leastK op) || decide (mostK op < len))
theorem ent_r7_kids : VM.Enters Tryd.prog 149 := VM.Enters.mk Tryd.func149 rfl
theorem r7_kids_cs (op : Int) (len : Nat) : CS Tryd.prog G 149 [.int .i64 op, .int .i64 len] (.d (.bool (kidsB op len))) none := by
  have one : ∀ k : Nat, (!(decide ((len : Int) < k) || decide ((k : Int) < len))) = decide (len = k) := fun k => by
    by_cases h : len = k
    · simp [h]
    · rcases Nat.lt_or_gt_of_ne h with h1 | h1
      · have : (len : Int) < k := by omega
        simp [h, this]
      · have : (k : Int) < len := by omega
        simp [h, this]
  have z0 := one 0
  have z1 := one 1
  have z2 := one 2
  refine CS.of_VK Tryd.func149 rfl Tryd.ntmps149 rfl ?_
  by_cases h1 : op = 1
  · simp [kidsB, leastK, mostK, h1]
    simpa using z0.symm
  by_cases h2 : op = 2
  · simp [kidsB, leastK, mostK, h2]
    simpa using z0.symm
  by_cases h3 : op = 3
  · simp [kidsB, leastK, mostK, h3]
    simpa using z0.symm
  by_cases h45 : op = 4 ∨ op = 5
  · have e : kidsB op len = (decide (1 ≤ len) && decide (len ≤ 24)) := by
      simp only [kidsB, leastK, mostK, h1, h2, h3, or_self, if_false, h45, if_true, Bool.not_or, ← decide_not]
      congr 1 <;> (rw [decide_eq_decide]; omega)
    rw [e]
    rcases h45 with h | h
    · by_cases c1 : 1 ≤ len
      · simp [h, c1]
      · simp [h, c1]
    · by_cases c1 : 1 ≤ len
      · simp [h, c1]
      · simp [h, c1]
  by_cases h914 : op = 9 ∨ op = 14
  · have e : kidsB op len = decide (len = 1) := by
      simp only [kidsB, leastK, mostK, h1, h2, h3, or_self, if_false, h45, h914, if_true]
      exact z1
    rw [e]
    have h4 : ¬ op = 4 := fun e => h45 (.inl e)
    have h5 : ¬ op = 5 := fun e => h45 (.inr e)
    rcases h914 with h | h <;> simp [h]
  · have e : kidsB op len = decide (len = 2) := by
      simp only [kidsB, leastK, mostK, h1, h2, h3, or_self, if_false, h45, h914]
      exact z2
    rw [e]
    have h4 : ¬ op = 4 := fun e => h45 (.inl e)
    have h5 : ¬ op = 5 := fun e => h45 (.inr e)
    have h9 : ¬ op = 9 := fun e => h914 (.inl e)
    have h14 : ¬ op = 14 := fun e => h914 (.inr e)
    simp [h1, h2, h3, h4, h5, h9, h14]
def calB (op : Int) (nm : Nm) : Bool := !(namB op && !coreB nm && !freeN op nm)
theorem ent_r7_called : VM.Enters Tryd.prog 151 := VM.Enters.mk Tryd.func151 rfl
theorem r7_called_cs (p : Pr) : CS Tryd.prog G 151 [.agg (prD p)] (.d (.bool (calB p.op p.name))) none := by
  refine CS.of_VK Tryd.func151 rfl Tryd.ntmps151 rfl ?_
  by_cases h3 : p.op = 3
  · by_cases hv : p.name = [118]
    · simp [h3, hv, calB, namB, freeN]
    · simp [h3, hv]
      refine callK.mk ent_r4_Core (r4_Core_cs p.name) ?_
      cases hc : coreB p.name <;> simp [errName, calB, namB, freeN, h3, hv, hc]
  by_cases h4 : p.op = 4
  · by_cases hv : p.name = [116, 97, 103]
    · simp [h4, hv, calB, namB, freeN]
    · by_cases hv2 : p.name = [118, 97, 108]
      · simp [h4, hv2, calB, namB, freeN]
      · simp [h4, hv, hv2]
        refine callK.mk ent_r4_Core (r4_Core_cs p.name) ?_
        cases hc : coreB p.name <;> simp [errName, calB, namB, freeN, h4, hv, hv2, hc]
  by_cases h5 : p.op = 5
  · simp [h5]
    refine callK.mk ent_r4_Core (r4_Core_cs p.name) ?_
    cases hc : coreB p.name <;> simp [errName, calB, namB, freeN, h5, hc]
  · simp [h3, h4, h5, calB, namB]
theorem ent_r7_node : VM.Enters Tryd.prog 141 := VM.Enters.mk Tryd.func141 rfl
theorem r7_node_cs (p : Pr) (hlen : p.kids.length ≤ 900000000) : CS Tryd.prog G 141 [.agg (prD p)] (.d (.int .i64 (nodeE p))) none := by
  obtain ⟨op, nm, n, l⟩ := p
  simp only at hlen
  have hcal := r7_called_cs (G := G) ⟨op, nm, n, l⟩
  have hkd := r7_kids_cs (G := G) op l.length
  simp only at hcal
  have hm : nodeE ⟨op, nm, n, l⟩ = if op < 1 ∨ 18 < op then 1 else if argE op nm n l.length then 1 else if rangeE op n then 2 else if namB op && !coreB nm && !freeN op nm then 3 else if op = 8 ∧ headK l ≠ 1 then 6 else 0 := rfl
  have hargs : argE op nm n l.length = ((!namB op && !decide (nm = [])) || (!decide (op = 1) && !decide (op = 2) && !decide (n = 0)) || !kidsB op l.length) := by
    simp only [argE, kidsB, Bool.not_not, Bool.or_assoc]
  rw [hargs] at hm
  obtain ⟨cb, hcb⟩ : ∃ b, (namB op && !coreB nm && !freeN op nm) = b := ⟨_, rfl⟩
  have hcl : calB op nm = !cb := by rw [calB, hcb]
  rw [hcl] at hcal
  rw [hcb] at hm
  refine CS.of_VK Tryd.func141 rfl Tryd.ntmps141 rfl ?_
  by_cases a1 : op < 1
  · simp [a1] at hm
    have o1 : ¬ op = 1 := by omega
    have o2 : ¬ op = 2 := by omega
    simp (maxSteps := 4000000) [o1, o2, a1, hm]
  by_cases a2 : 18 < op
  · simp [a2] at hm
    have o1 : ¬ op = 1 := by omega
    have o2 : ¬ op = 2 := by omega
    simp (maxSteps := 4000000) [o1, o2, a1, a2, hm]
  rw [if_neg (by omega)] at hm
  by_cases o1 : op = 1
  · subst o1
    have hn : namB 1 = false := rfl
    rw [hn, Bool.false_and, Bool.false_and] at hcb
    subst hcb
    by_cases b1 : nm = []
    rotate_left
    · have b1' : nm.isEmpty = false := by cases nm <;> simp at b1 ⊢
      simp [hn, b1] at hm
      simp (maxSteps := 4000000) [b1, b1']
      refine callK.mk ent_r7_named (r7_named_cs 1) ?_
      simp (maxSteps := 4000000) [hn, hm]
    subst b1
    by_cases c0 : n = 0
    · subst c0
      simp (maxSteps := 4000000)
      refine callK.mk ent_r7_kids hkd ?_
      cases hk : kidsB 1 l.length
      · simp [hn, hk] at hm
        simp (maxSteps := 4000000) [hm]
      · simp [hn, hk, rangeE] at hm
        have hi : inB 0 = true := rfl
        simp (maxSteps := 4000000)
        refine callK.mk ent_r1_In (r1_In_cs 0) ?_
        simp [hi] at hm
        simp (maxSteps := 4000000) [hi]
        refine callK.mk ent_r7_called hcal ?_
        simp (maxSteps := 4000000) [hm]
    · simp (maxSteps := 4000000) [c0]
      refine callK.mk ent_r7_kids hkd ?_
      cases hk : kidsB 1 l.length
      · simp [hn, hk] at hm
        simp (maxSteps := 4000000) [hm]
      · simp [hn, hk, rangeE] at hm
        simp (maxSteps := 4000000)
        refine callK.mk ent_r1_In (r1_In_cs n) ?_
        cases hi : inB n
        · simp [hi] at hm
          simp (maxSteps := 4000000) [hm]
        · simp [hi] at hm
          simp (maxSteps := 4000000)
          refine callK.mk ent_r7_called hcal ?_
          simp (maxSteps := 4000000) [hm]
  by_cases o2 : op = 2
  · subst o2
    have hn : namB 2 = false := rfl
    rw [hn, Bool.false_and, Bool.false_and] at hcb
    subst hcb
    by_cases b1 : nm = []
    rotate_left
    · have b1' : nm.isEmpty = false := by cases nm <;> simp at b1 ⊢
      simp [hn, b1] at hm
      simp (maxSteps := 4000000) [b1, b1']
      refine callK.mk ent_r7_named (r7_named_cs 2) ?_
      simp (maxSteps := 4000000) [hn, hm]
    subst b1
    by_cases c0 : n = 0
    · subst c0
      simp (maxSteps := 4000000)
      refine callK.mk ent_r7_kids hkd ?_
      cases hk : kidsB 2 l.length
      · simp [hn, hk] at hm
        simp (maxSteps := 4000000) [hm]
      · simp [hn, hk, rangeE] at hm
        simp (maxSteps := 4000000)
        refine callK.mk ent_r7_called hcal ?_
        simp (maxSteps := 4000000) [hm]
    · simp (maxSteps := 4000000) [c0]
      refine callK.mk ent_r7_kids hkd ?_
      cases hk : kidsB 2 l.length
      · simp [hn, hk] at hm
        simp (maxSteps := 4000000) [hm]
      · simp [hn, hk, rangeE, c0] at hm
        by_cases c1 : n = 1
        · subst c1
          simp at hm
          simp (maxSteps := 4000000)
          refine callK.mk ent_r7_called hcal ?_
          simp (maxSteps := 4000000) [hm]
        · simp [c1] at hm
          by_cases c2 : n < 0
          · simp (maxSteps := 4000000) [c2, hm]
          · have c3 : 1 < n := by omega
            simp (maxSteps := 4000000) [c2, c3, hm]
  by_cases b1 : nm = []
  · subst b1
    by_cases c0 : n = 0
    rotate_left
    · simp [o1, o2, c0] at hm
      simp (maxSteps := 4000000) [a1, a2, o1, o2, c0, hm]
    subst c0
    simp (maxSteps := 4000000) [a1, a2, o1, o2]
    refine callK.mk ent_r7_kids hkd ?_
    cases hk : kidsB op l.length
    · simp [hk] at hm
      simp (maxSteps := 4000000) [hm]
    · simp [o1, o2, hk, rangeE] at hm
      simp (maxSteps := 4000000) [o1, o2]
      refine callK.mk ent_r7_called hcal ?_
      cases cb
      · by_cases o8 : op = 8
        · subst o8
          match l, hk with
          | [], hk => exact absurd hk (by decide)
          | k :: r, hk =>
            by_cases e1 : k.op = 1
            · simp [headK, e1] at hm
              simp (maxSteps := 4000000) [e1, hm]
            · simp [headK, e1] at hm
              simp (maxSteps := 4000000) [e1, hm]
        · simp [o8] at hm
          simp (maxSteps := 4000000) [o8, hm]
      · simp at hm
        simp (maxSteps := 4000000) [hm]
  · have b1' : nm.isEmpty = false := by cases nm <;> simp at b1 ⊢
    simp (maxSteps := 4000000) [a1, a2, o1, o2, b1, b1']
    refine callK.mk ent_r7_named (r7_named_cs op) ?_
    cases hn : namB op
    · simp [hn, b1] at hm
      simp (maxSteps := 4000000) [hm]
    · by_cases c0 : n = 0
      rotate_left
      · simp [hn, o1, o2, c0] at hm
        simp (maxSteps := 4000000) [c0, hm]
      subst c0
      simp (maxSteps := 4000000)
      refine callK.mk ent_r7_kids hkd ?_
      cases hk : kidsB op l.length
      · simp [hk] at hm
        simp (maxSteps := 4000000) [hm]
      · simp [hn, o1, o2, hk, rangeE] at hm
        simp (maxSteps := 4000000) [o1, o2]
        refine callK.mk ent_r7_called hcal ?_
        cases cb
        · by_cases o8 : op = 8
          · subst o8
            match l, hk with
            | [], hk => exact absurd hk (by decide)
            | k :: r, hk =>
              by_cases e1 : k.op = 1
              · simp [headK, e1] at hm
                simp (maxSteps := 4000000) [e1, hm]
              · simp [headK, e1] at hm
                simp (maxSteps := 4000000) [e1, hm]
          · simp [o8] at hm
            simp (maxSteps := 4000000) [o8, hm]
        · simp at hm
          simp (maxSteps := 4000000) [hm]
theorem ent_r7_form : VM.Enters Tryd.prog 133 := VM.Enters.mk Tryd.func133 rfl
theorem r7_form_cs : ∀ p : Pr, nodP p ≤ 900000000 → CS Tryd.prog G 133 [.agg (prD p)] (.d (.int .i64 (firstE nodeE (preP p)))) none := by
  refine Pr.ind fun p ih => ?_
  intro hN
  have hnd := r7_node_cs (G := G) p (by have := nodP_kids p; have := len_le_nodPs p.kids; omega)
  have hpe := preP_eq p
  obtain ⟨op, nm, n, l⟩ := p
  simp only at ih hpe
  have hn := nodP_kids ⟨op, nm, n, l⟩
  simp only at hn
  have hl := len_le_nodPs l
  rw [hpe, firstE]
  refine CS.of_VK Tryd.func133 rfl Tryd.ntmps133 rfl ?_
  simp
  refine callK.mk ent_r7_node hnd ?_
  by_cases h0 : nodeE ⟨op, nm, n, l⟩ = 0
  rotate_left
  · simp [h0]
  simp [h0]
  refine SW.loopF (ι := { i : Nat // i ≤ l.length ∧ firstE nodeE (prePs (l.take i)) = 0 }) (fun i => [(15, .d (.int .i64 i.1))]) (fun _ => [(1, prO op nm n (.sl (l.map prC)))]) (fun _ => []) (fun i => l.length - i.1) ⟨0, by simp [prePs, firstE]⟩ (by simp) ?_
  rintro ⟨i, hi, hR⟩
  try simp only at hi hR
  by_cases hlt : i < l.length
  · have hg := prs_get hlt
    have hw := wrap64s (show i < 9223372036854775807 by omega)
    have hb2 := nodPs_step hlt
    have hb3 := nodPs_take_le l (i + 1)
    have ht := prePs_take hlt
    have hsp := prePs_split l (i + 1)
    simp [hlt, hg]
    refine callK.mk ent_r7_form (ih l[i] (List.getElem_mem hlt) (by omega)) ?_
    by_cases hk : firstE nodeE (preP l[i]) = 0
    · simp [hk]
      exact Again.mk ⟨i + 1, hlt, by rw [ht, firstE_app, if_pos hR, hk]⟩ (by simp [hw]) (by simp; omega)
    · have hf : firstE nodeE (prePs l) = firstE nodeE (preP l[i]) := by
        rw [hsp, firstE_app, ht, firstE_app, if_pos hR, if_neg hk]
      simp [hk, hf]
  · have : i = l.length := by omega
    subst this
    rw [List.take_length] at hR
    simp [hR]
theorem ent_r7_Check : VM.Enters Tryd.prog 118 := VM.Enters.mk Tryd.func118 rfl
theorem r7_Check_cs (p : Pr) (hN : nodP p ≤ 900000000) : CS Tryd.prog G 118 [.agg (prD p)] (.d (.int .i64 (chkE p))) none := by
  refine CS.of_VK Tryd.func118 rfl Tryd.ntmps118 rfl ?_
  simp
  refine callK.mk ent_r7_Nodes (r7_Nodes_cs p hN) ?_
  by_cases h1 : 400 < nodP p
  · simp [h1, chkE, chkP]
  simp [h1]
  refine callK.mk ent_r7_Depth (r7_Depth_cs p hN) ?_
  by_cases h2 : 40 < depP p
  · simp [h1, h2, chkE, chkP]
  simp [h2]
  refine callK.mk ent_r7_form (r7_form_cs p hN) ?_
  simp [h1, h2, chkE, chkP]
end Go.Proofs.YtmjpdmkgmlhfaaaDoor
end
