/- The nodes of a predicate are yielded one after the other: the walk of visit, at every loop body. No condition. -/
import Derived.RangeFuncNested
import Derived.RangeFuncBound
import Derived.RangeFuncCalls
import Derived.RangeFuncLeaves
import Derived.Shelf.Abstract
import Derived.WalkKit
import Derived.OwnWalkIn
import Derived.TacticsInMore
import Derived.LoopNIn
import Derived.LoopIn
import Derived.Test.YthikbenglkfioaaDoorPa
import Derived.Test.YthikbenglkfioaaDoorProg
set_option linter.unusedVariables false
set_option linter.unusedSimpArgs false
set_option linter.unusedSectionVars false
namespace Go.Proofs.YthikbenglkfioaaDoor
open Go Go.VM Go.RowKit Go.Shelf
set_option maxRecDepth 100000
set_option maxHeartbeats 4000000
attribute [local go_sem] Oper.semAt_some
/-- Blocks other than those of X stay. -/
structure KeepX (X : Nat → Prop) (W W' : World) : Prop where
  os : W'.os = W.os
  tape : W'.tape = W.tape
  output : W'.output = W.output
  size : W.heap.size ≤ W'.heap.size
  block : ∀ k, k < W.heap.size → ¬ X k → W'.heap[k]? = W.heap[k]?
theorem KeepX.refl (X : Nat → Prop) (W : World) : KeepX X W W := ⟨rfl, rfl, rfl, Nat.le_refl _, fun _ _ _ => rfl⟩
theorem KeepX.trans {X : Nat → Prop} {A B C : World} (h : KeepX X A B) (k : KeepX X B C) : KeepX X A C :=
  ⟨k.os.trans h.os, k.tape.trans h.tape, k.output.trans h.output, Nat.le_trans h.size k.size, fun i hi hx => (k.block i (Nat.lt_of_lt_of_le hi h.size) hx).trans (h.block i hi hx)⟩
abbrev NoX : Nat → Prop := fun _ => False
theorem KeepX.up {X : Nat → Prop} {A B : World} (h : KeepX NoX A B) : KeepX X A B := ⟨h.os, h.tape, h.output, h.size, fun k hk _ => h.block k hk fun e => e⟩
theorem KeepX.cell {X : Nat → Prop} {A B : World} (h : KeepX X A B) {b o : Nat} (hb : b < A.heap.size) (hx : ¬ X b) : B.cell? ⟨b, o, none⟩ = A.cell? ⟨b, o, none⟩ := by
  unfold World.cell?
  rw [h.block b hb hx]
theorem KeepX.alloc {X : Nat → Prop} {A B : World} (h : KeepX X A B) (o : Obj) : KeepX X A (B.alloc o) :=
  h.trans ⟨rfl, rfl, rfl, by simp, fun k hk _ => by
    show (B.heap.push o)[k]? = _
    rw [Array.getElem?_push, if_neg (by omega)]⟩
/-- What a predicate's value looks like. -/
theorem V_pr {R : Nat → Nat → Prop} {w : World} {v : Value} {p : Pr} (h : V R w v (.agg (prC p))) :
    ∃ (ao : Option Addr) (cap : Nat) (nm : ByteArray), v = .agg #[.int .i64 p.op, .string nm, .int .i64 p.n, .slice ao p.kids.length cap] ∧
      ∀ (i : Nat) (hi : i < p.kids.length), ∃ b o, ao = some ⟨b, o, none⟩ ∧ ∃ f : Nat → Value, (∀ j, j < 4 → R b (o + i * 4 + j) ∧ w.cell? ⟨b, o + i * 4 + j, none⟩ = some (f j)) ∧ V R w (.agg #[f 0, f 1, f 2, f 3]) (.agg (prC p.kids[i])) := by
  obtain ⟨op, nm, n, ks⟩ := p
  rw [prC_eq] at h
  cases h with
  | agg cs _ h1 h2 h3 =>
    obtain ⟨l⟩ := cs
    match l, h1 with
    | [c0, c1, c2, c3], _ =>
      have g0 := h3 0 _ rfl
      have g1 := h3 1 _ rfl
      have g2 := h3 2 _ rfl
      have g3 := h3 3 _ rfl
      simp at g0 g1 g2 g3
      obtain ⟨es, hes⟩ : ∃ es, ks.map prC = es := ⟨_, rfl⟩
      simp only [hes] at g3
      cases g0
      cases g1
      cases g2
      have hlen : es.length = ks.length := by rw [← hes]; simp
      cases g3 with
      | emp ao cap =>
        have h0 : ks = [] := by simpa using hes
        subst h0
        exact ⟨ao, cap, _, rfl, fun i hi => by simp at hi⟩
      | sl b o m cap size es f k1 k2 k3 k4 k5 k6 k7 =>
        have hm : m = ks.length := by omega
        subst hm
        refine ⟨_, cap, _, rfl, fun i hi => ⟨b, o, rfl, f i, ?_⟩⟩
        simp only at hi
        have hg : es[i]? = some (prC ks[i]) := by rw [← hes]; simp [hi]
        have hs : size = 4 := by
          have := k4 _ (List.mem_of_getElem? hg)
          rw [prC_eq] at this
          simpa using this.symm
        subst hs
        refine ⟨fun j hj => k5 i j hi hj, ?_⟩
        have q : ∀ (j : Nat) (d : D), (prC ks[i])[j]? = some d → V R w (f i j) d := fun j d hd => k7 i j _ d hg hd
        have q1 : ∀ (j : Nat) (d : D), (prC ks[i])[j]? = some d → d.one = true := fun j d hd => k6 i j _ d hg hd
        refine .agg _ _ (by rw [prC_eq]; rfl) q1 fun j d hd => ?_
        have hj : j < 4 := by
          have := (List.getElem?_eq_some_iff.1 hd).1
          rw [prC_eq] at this
          simpa using this
        have hv := q j d hd
        match j, hj with
        | 0, _ => exact hv
        | 1, _ => exact hv
        | 2, _ => exact hv
        | 3, _ => exact hv
mutual
/-- The nodes, each before those of its kids. -/
def preP : Pr → List Pr
  | ⟨op, nm, n, l⟩ => ⟨op, nm, n, l⟩ :: prePs l
def prePs : List Pr → List Pr
  | [] => []
  | p :: r => preP p ++ prePs r
end
theorem preP_eq (p : Pr) : preP p = p :: prePs p.kids := by cases p; rfl
theorem prePs_app : ∀ a b : List Pr, prePs (a ++ b) = prePs a ++ prePs b
  | [], b => by simp [prePs]
  | p :: a, b => by simp only [List.cons_append, prePs, prePs_app a b, List.append_assoc]
theorem prePs_take {l : List Pr} {i : Nat} (h : i < l.length) : prePs (l.take (i + 1)) = prePs (l.take i) ++ preP l[i] := by
  rw [List.take_succ_eq_append_getElem h, prePs_app]
  simp [prePs]
theorem prePs_split (l : List Pr) (i : Nat) : prePs l = prePs (l.take i) ++ prePs (l.drop i) := by rw [← prePs_app, List.take_append_drop]
/-- What a call of yield does: it goes on, or it has said no more. -/
def Yields (P : Program) (L : List Pr) (l : Nat) (X : Nat → Prop) (R : Nat → Nat → Prop) (w0 : World) (J Jx : List Pr → World → Prop) : Prop :=
  ∀ (m : Nat) (pre : List Pr) (v : Value) (p : Pr) (W : World), pre ++ [p] <+: L → V R w0 v (.agg (prC p)) → KeepX X w0 W → J pre W → YieldAt Fence.wide m P l #[v] W fun e W' =>
    (e = .returned (.bool true) ∧ J (pre ++ [p]) W' ∧ KeepX X W W') ∨ (e = .returned (.bool false) ∧ Jx (pre ++ [p]) W' ∧ KeepX X W W')
theorem cell_box (W : World) (cs : Array Value) (T : TypeId) {j : Nat} {v : Value} (h : cs[j]? = some v) : (W.alloc (.cells cs T)).cell? ⟨W.heap.size, j, none⟩ = some v := by
  unfold World.cell?
  rw [World.alloc_heap_new]
  simp [h]
theorem visit_in (L : List Pr) (l : Nat) (X : Nat → Prop) (R : Nat → Nat → Prop) (w0 : World) (hX : ∀ b o, R b o → ¬ X b) (hR : ∀ b o, R b o → b < w0.heap.size) (hX2 : ∀ k, X k → k < w0.heap.size)
    (J Jx : List Pr → World → Prop) (hJ : ∀ s A B, J s A → KeepX NoX A B → J s B) (hY : Yields Tryd.prog L l X R w0 J Jx) :
    ∀ (p : Pr) (n : Nat) (v : Value) (pre : List Pr) (W : World), nodP p ≤ 1000000 → pre ++ preP p <+: L → V R w0 v (.agg (prC p)) → KeepX X w0 W → J pre W →
      CallsIn Fence.wide n Tryd.prog 136 #[v, .func (.yield l) #[] #[]] W fun e W' =>
        (e = .returned (.bool true) ∧ J (pre ++ preP p) W' ∧ KeepX X W W') ∨ (e = .returned (.bool false) ∧ ∃ q, q <+: preP p ∧ Jx (pre ++ q) W' ∧ KeepX X W W') := by
  refine Pr.ind fun p ih => ?_
  intro n v pre W hN hL hv hW hJ0
  have hN1 := nodP_kids p
  have hN2 := len_le_nodPs p.kids
  have hpk : ∀ (k : Nat) (h : k < p.kids.length), (pre ++ p :: prePs (p.kids.take k)) ++ preP p.kids[k] <+: L := fun k h => by
    refine List.IsPrefix.trans ⟨prePs (p.kids.drop (k + 1)), ?_⟩ hL
    rw [preP_eq p, prePs_split p.kids k, List.drop_eq_getElem_cons h]
    simp [prePs]
  obtain ⟨ao, cap, nm, rfl, hk⟩ := V_pr hv
  have hJ1 := hJ _ _ (W.alloc (.cells #[.int .i64 p.op, .string nm, .int .i64 p.n, .slice ao p.kids.length cap] 31)) hJ0 ((KeepX.refl NoX W).alloc _)
  have hW1 := hW.alloc (.cells #[.int .i64 p.op, .string nm, .int .i64 p.n, .slice ao p.kids.length cap] 31)
  obtain ⟨fn, tmps, assign, body, hy, hYR⟩ := hY (n - 1) pre _ p _ (((List.prefix_append_right_inj pre).2 ⟨prePs p.kids, by rw [preP_eq]; rfl⟩).trans hL) hv hW1 hJ1
  refine callsIn_of_wp Tryd.func136 rfl trivial ?_ rfl
  simp only [Tryd.ntmps136, List.size_toArray, List.length_cons, List.length_nil, Nat.reduceAdd, Nat.reduceSub, Array.replicate_succ, Array.replicate_zero, List.push_toArray, List.append_toArray, List.nil_append, List.cons_append]
  gi_wp2
  refine ⟨fun h => (by cases h), ?_⟩
  have hbx : ¬ X W.heap.size := fun h => by have := hX2 _ h; have := hW.size; omega
  refine hYR.mono ?_
  rintro e W3 (⟨rfl, hJ3, hK3⟩ | ⟨rfl, hJ3, hK3⟩)
  · have hWK : KeepX X W W3 := ((KeepX.refl X W).alloc _).trans hK3
    have hbox : W3.cell? ⟨W.heap.size, 3, none⟩ = some (.slice ao p.kids.length cap) := (hK3.cell (by simp) hbx).trans (cell_box W _ _ rfl)
    gi_wp2
    gi_loopw [14] (fun i wr => ∃ k : Nat, k ≤ p.kids.length ∧ i = .int .i64 k ∧ J (pre ++ p :: prePs (p.kids.take k)) wr ∧ KeepX X W wr) (fun i _ => p.kids.length - (intOf i).toNat)
    case atStart => exact ⟨0, Nat.zero_le _, rfl, by simpa [prePs] using hJ3, hWK⟩
    case round =>
      obtain ⟨k, hkl, rfl, hJk, hKk⟩ := hrel
      by_cases hlt : k < p.kids.length
      · obtain ⟨b, o, rfl, f, hf, hfv⟩ := hk k hlt
        have hcx : ∀ j, j < 4 → wr.cell? ⟨b, o + k * 4 + j, none⟩ = some (f j) := fun j hj => ((hW.trans hKk).cell (hR _ _ (hf j hj).1) (hX _ _ (hf j hj).1)).trans (hf j hj).2
        have h0 := hcx 0 (by omega)
        rw [Nat.add_zero] at h0
        have h1 := hcx 1 (by omega)
        have h2 := hcx 2 (by omega)
        have h3 := hcx 3 (by omega)
        have hfv2 := hfv
        have hb2 := nodPs_step hlt
        have hb3 := nodPs_take_le p.kids (k + 1)
        obtain ⟨ao2, cap2, nm2, he, _⟩ := V_pr hfv
        simp only [Value.agg.injEq, Array.mk.injEq, List.cons.injEq, and_true] at he
        obtain ⟨e0, e1, e2, e3⟩ := he
        rw [e0] at h0
        rw [e1] at h1
        rw [e2] at h2
        rw [e3] at h3
        rw [e0, e1, e2, e3] at hfv2
        gi_wp2
        refine ⟨trivial, fun h => (by cases h), (ih p.kids[k] (List.getElem_mem hlt) (n - 1) _ _ _ (by omega) (hpk k hlt) hfv2 ((hW.trans hKk).alloc _) (hJ _ _ _ hJk ((KeepX.refl NoX wr).alloc _))).mono ?_⟩
        rintro e W4 (⟨rfl, hJ4, hK4⟩ | ⟨rfl, q, hq, hJ4, hK4⟩)
        · have hw64 : RowKit.wrap64 ((k : Int) + 1) = (k : Int) + 1 := by unfold RowKit.wrap64; omega
          gi_wp2
          go_roundw
          case rel => exact ⟨k + 1, hlt, by simp [hw64], by rw [prePs_take hlt]; simpa using hJ4, (hKk.alloc _).trans hK4⟩
          case measure => simp [intOf, hw64]; omega
        · gi_wp2
          go_ret
          refine .inr ⟨rfl, p :: prePs (p.kids.take k) ++ q, ?_, by simpa using hJ4, (hKk.alloc _).trans hK4⟩
          rw [preP_eq, prePs_split p.kids k, List.drop_eq_getElem_cons hlt]
          obtain ⟨r, hr⟩ := hq
          exact ⟨r ++ prePs (p.kids.drop (k + 1)), by simp [prePs, ← hr]⟩
      · obtain rfl : k = p.kids.length := by omega
        gi_wp2
        go_ret
        exact .inl ⟨rfl, by rw [preP_eq]; simpa using hJk, hKk⟩
  · gi_wp2
    go_ret
    exact .inr ⟨rfl, [p], ⟨prePs p.kids, by rw [preP_eq]; rfl⟩, hJ3, ((KeepX.refl X W).alloc _).trans hK3⟩
end Go.Proofs.YthikbenglkfioaaDoor
