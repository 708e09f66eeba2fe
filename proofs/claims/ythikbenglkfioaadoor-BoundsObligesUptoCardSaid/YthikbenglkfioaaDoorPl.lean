/- The check of a predicate: every node is checked, in the order of visit. No condition. -/
import Derived.Test.YthikbenglkfioaaDoorPk
set_option linter.unusedVariables false
set_option linter.unusedSimpArgs false
set_option linter.unusedSectionVars false
namespace Go.Proofs.YthikbenglkfioaaDoor
open Go Go.VM Go.RowKit Go.Shelf
set_option maxRecDepth 100000
set_option maxHeartbeats 4000000
attribute [local go_sem] Oper.semAt_some
theorem glob_keep {G : GT} {R : Nat → Nat → Prop} {w0 w : World} (h : Glob G (From w0.heap.size) R w0) (hs : w0.heap.size ≤ w.heap.size) (hR : ∀ b o, R b o → b < w0.heap.size) (hb : ∀ k, k < w0.heap.size → w.heap[k]? = w0.heap[k]?) : Glob G (From w.heap.size) R w := by
  intro g cs hg
  obtain ⟨h1, h2, arr, T, fr, h3, h4⟩ := h g cs hg
  have hl : g < w0.heap.size := by simpa [From] using h2
  have hc : ∀ b o, R b o → w.cell? ⟨b, o, none⟩ = w0.cell? ⟨b, o, none⟩ := fun b o hbo => by
    unfold World.cell?
    rw [hb b (hR b o hbo)]
  refine ⟨fun j d hj => ?_, by simp only [From]; omega, arr, T, fr, (hb g hl).trans h3, h4⟩
  obtain ⟨a1, a2, v, a3, a4⟩ := h1 j d hj
  exact ⟨a1, a2, v, (hc _ _ a2).trans a3, a4.step (fun _ _ h => h) hc⟩
theorem KeepX.of_step {R R' : Nat → Nat → Prop} {w w' : World} (h : Step (From w.heap.size) R w R' w') : KeepX NoX w w' :=
  ⟨h.below.os, h.below.tape, h.below.output, h.below.size, fun k hk _ => h.below.block k (by simp only [From]; omega)⟩
/-- A contract that gives a number, for a call within a round. -/
theorem cs_wide {P : Program} {G : GT} {f : FuncId} {ds : List D} {k : IntKind} {z : Int} {own : Option TypeId} (h : CS P G f ds (.d (.int k z)) own) {w : World} {R : Nat → Nat → Prop} {args : Array Value} (m : Nat) (hg : Glob G (From w.heap.size) R w) (hR : ∀ b o, R b o → b < w.heap.size) (hs : args.size = ds.length)
    (hv : ∀ (i : Nat) (d : D), ds[i]? = some d → V R w (args.getD i undef) d) : CallsIn Fence.wide m P f args w fun e w' => e = .returned (.int k z) ∧ KeepX NoX w w' :=
  callsIn_wide.2 ((h w R args hg hR hs hv).mono fun e w' ⟨v, R', he, hv', hst, _, _⟩ => by
    cases hv' id with
    | d v x hvx =>
      cases hvx
      exact ⟨he, KeepX.of_step hst⟩)
theorem KeepX.weaken {X Y : Nat → Prop} {A B : World} (h : KeepX X A B) (hXY : ∀ k, X k → Y k) : KeepX Y A B := ⟨h.os, h.tape, h.output, h.size, fun k hk hy => h.block k hk fun hx => hy (hXY k hx)⟩
theorem KeepX.putObj {X : Nat → Prop} (A : World) {l : Nat} (hl : X l) (o : Obj) : KeepX X A (A.putObj l o) := ⟨rfl, rfl, rfl, by simp, fun k _ hx => World.putObj_heap_other fun e => hx (e ▸ hl)⟩
theorem keep_new {X : Nat → Prop} {A B : World} (h : KeepX X A B) (hX : ∀ k, X k → A.heap.size ≤ k) : KeepX NoX A B := ⟨h.os, h.tape, h.output, h.size, fun k hk _ => h.block k hk fun hx => by have := hX k hx; omega⟩
theorem before1_in (L : List Pr) (l : Nat) (X : Nat → Prop) (R : Nat → Nat → Prop) (w0 : World) (hX : ∀ b o, R b o → ¬ X b) (hR : ∀ b o, R b o → b < w0.heap.size) (hX2 : ∀ k, X k → k < w0.heap.size)
    (J Jx : List Pr → World → Prop) (hJ : ∀ s A B, J s A → KeepX NoX A B → J s B) (hY : Yields Tryd.prog L l X R w0 J Jx) (p : Pr) (n : Nat) (c0 c1 c2 c3 : Value) (W : World) (bx : Nat) (hbx : W.heap[bx]? = some (.cells #[c0, c1, c2, c3] 31 (0, 0)))
    (hN : nodP p ≤ 1000000) (hL : preP p = L) (hv : V R w0 (.agg #[c0, c1, c2, c3]) (.agg (prC p))) (hW : KeepX X w0 W) (hJ0 : J [] W) :
    CallsIn Fence.wide n Tryd.prog 135 #[.func (.yield l) #[] #[], .pointer (some ⟨bx, 0, none⟩)] W fun e W' =>
        ∃ v, e = .returned v ∧ ((J L W' ∧ KeepX X W W') ∨ ∃ q, q <+: L ∧ Jx q W' ∧ KeepX X W W') := by
  have hvis := visit_in L l X R w0 hX hR hX2 J Jx hJ hY p (n - 1) _ [] W hN (by rw [List.nil_append, hL]; exact List.prefix_rfl) hv hW hJ0
  obtain ⟨ao, cap, nm, he, _⟩ := V_pr hv
  simp only [Value.agg.injEq, Array.mk.injEq, List.cons.injEq, and_true] at he
  obtain ⟨rfl, rfl, rfl, rfl⟩ := he
  have e0 : W.cell? ⟨bx, 0, none⟩ = some (.int .i64 p.op) := by unfold World.cell?; rw [hbx]; rfl
  have e1 : W.cell? ⟨bx, 1, none⟩ = some (.string nm) := by unfold World.cell?; rw [hbx]; rfl
  have e2 : W.cell? ⟨bx, 2, none⟩ = some (.int .i64 p.n) := by unfold World.cell?; rw [hbx]; rfl
  have e3 : W.cell? ⟨bx, 3, none⟩ = some (.slice ao p.kids.length cap) := by unfold World.cell?; rw [hbx]; rfl
  refine callsIn_of_wp Tryd.func135 rfl trivial ?_ rfl
  simp only [Tryd.ntmps135, List.size_toArray, List.length_cons, List.length_nil, Nat.reduceAdd, Nat.reduceSub, Array.replicate_succ, Array.replicate_zero, List.push_toArray, List.append_toArray, List.nil_append, List.cons_append]
  gi_wp2
  refine ⟨trivial, fun h => (by cases h), hvis.mono ?_⟩
  rintro e W4 (⟨rfl, hJ4, hK4⟩ | ⟨rfl, q, hq, hJ4, hK4⟩)
  · gi_wp2
    first | go_ret | go_ret2 | go_end0
    rw [hL] at hJ4
    exact ⟨_, rfl, .inl ⟨hJ4, hK4⟩⟩
  · gi_wp2
    first | go_ret | go_ret2 | go_end0
    rw [hL] at hq
    exact ⟨_, rfl, .inr ⟨q, hq, hJ4, hK4⟩⟩
theorem before_in (n : Nat) (c0 c1 c2 c3 : Value) (W : World) : CallsIn Fence.wide n Tryd.prog 129 #[.agg #[c0, c1, c2, c3]] W fun e W' => e = .returned (.func (.func 135) #[] #[.pointer (some ⟨W.heap.size, 0, none⟩)]) ∧ W' = W.alloc (.cells #[c0, c1, c2, c3] 31) := by
  refine callsIn_of_wp Tryd.func129 rfl trivial ?_ rfl
  simp only [Tryd.ntmps129, List.size_toArray, List.length_cons, List.length_nil, Nat.reduceAdd, Nat.reduceSub, Array.replicate_succ, Array.replicate_zero, List.push_toArray, List.append_toArray, List.nil_append, List.cons_append]
  gi_wp2
  first | go_ret | go_ret2 | go_end0
  exact ⟨rfl, rfl⟩
theorem wp_range (n : Nat) {g : Operand} {ps : Array Tmp} {assign body : Code} {Q : Exit → Act → World → Prop} {a : Act} {W : World} {bx : Nat} {c0 c1 c2 c3 : Value} (hg : a.eval g = .func (.func 135) #[] #[.pointer (some ⟨bx, 0, none⟩)])
    (hbx : W.heap[bx]? = some (.cells #[c0, c1, c2, c3] 31 (0, 0))) (hps : ps.size = 1) {R : Nat → Nat → Prop} {p : Pr} (hv : V R W (.agg #[c0, c1, c2, c3]) (.agg (prC p))) (hN : nodP p ≤ 1000000) (hR : ∀ b o, R b o → b < W.heap.size)
    (b1 : Nat) (hb1 : b1 < W.heap.size) (hRb : ∀ b o, R b o → b ≠ b1) (hbb : bx ≠ b1)
    (I Ix : List Pr → World → Prop) (hI : ∀ s A B, I s A → (∀ k, k < W.heap.size → B.heap[k]? = A.heap[k]?) → I s B) (hIx : ∀ s A B, Ix s A → (∀ k, k < W.heap.size → B.heap[k]? = A.heap[k]?) → Ix s B) (h0 : I [] W)
    (hround : ∀ (m l : Nat) (pre : List Pr) (q : Pr) (vq : Value) (W1 : World), W.heap.size ≤ l → l < W1.heap.size → pre ++ [q] <+: preP p → V R W vq (.agg (prC q)) → KeepX (fun k => k = b1) W W1 → I pre W1 →
      assign.wpIn (Fence.wide.inRound l) m Tryd.prog (Exit.then (fun a₁ w₁ => KeepX NoX W1 w₁ ∧ ∀ w2, KeepX (fun k => k = l) w₁ w2 → body.wpIn (Fence.wide.inRound l) m Tryd.prog (fun e _ w3 => match e with
        | .normal => KeepX (fun k => k = b1) w2 w3 ∧ I (pre ++ [q]) w3
        | .ret => KeepX (fun k => k = b1) w2 w3 ∧ Ix (pre ++ [q]) w3
        | _ => False) a₁ w2) (fun _ _ _ => False)) { tmps := (ps.zip #[vq]).foldl (fun t (p, v) => t.setIfInBounds p v) a.tmps, defers := [] } W1)
    (hdone : ∀ (D : Nat) (W' : World), W.heap.size ≤ D → I (preP p) W' → KeepX (fun k => k = b1) W W' → W'.heap[D]? = some (.deferred (some [])) → Q .normal { a with defers := { target := .collected D, args := #[] } :: a.defers } W')
    (hstop : ∀ (D : Nat) (pre : List Pr) (W' : World), W.heap.size ≤ D → pre <+: preP p → Ix pre W' → KeepX (fun k => k = b1) W W' → W'.heap[D]? = some (.deferred (some [])) → Q .ret { a with defers := { target := .collected D, args := #[] } :: a.defers } W') :
    (Code.rangeFunc g ps assign body).wpIn Fence.wide n Tryd.prog Q a W := by
  refine wpIn_rangeFunc ?_
  intro fn hfn
  rw [show Fence.wide.round = none from rfl]
  obtain ⟨rec, hrec⟩ : ∃ rec : LoopState → Option Code → Loop, rec = fun st pe => { state := st, pending := pe, fn, tmps := a.tmps, params := ps, assign, body, defers := W.heap.size } := ⟨_, rfl⟩
  obtain ⟨W1, hW1⟩ : ∃ W1, (W.alloc (.deferred (some []))).alloc (.loop (rec .ready none)) = W1 := ⟨_, rfl⟩
  have hL1 : W1.heap[W.heap.size + 1]? = some (.loop (rec .ready none)) := by
    rw [← hW1]; have := World.alloc_heap_new (W.alloc (.deferred (some []))) (.loop (rec .ready none)); rwa [World.size_alloc] at this
  have hD1 : W1.heap[W.heap.size]? = some (.deferred (some [])) := by
    rw [← hW1]; exact (Below.heap_alloc _ _ _ (by simp)).trans (World.alloc_heap_new W _)
  have hK1 : KeepX NoX W W1 := by rw [← hW1]; exact ((KeepX.refl _ _).alloc _).alloc _
  have hs1 : W1.heap.size = W.heap.size + 2 := by rw [← hW1]; simp
  have hI1 : I [] W1 := hI _ _ _ h0 fun k hk => hK1.block k hk id
  have hv1 : V R W1 (.agg #[c0, c1, c2, c3]) (.agg (prC p)) := hv.step (fun _ _ h => h) fun b o hbo => hK1.cell (hR b o hbo) id
  have hfin : ∀ {A : World}, KeepX (fun k => k = W.heap.size + 1 ∨ k = b1) W1 A → KeepX (fun k => k = b1) W A := fun h =>
    ⟨h.os.trans hK1.os, h.tape.trans hK1.tape, h.output.trans hK1.output, Nat.le_trans hK1.size h.size, fun k hk hx => (h.block k (by omega) (by rintro (e | e); (· omega); exact hx e)).trans (hK1.block k hk id)⟩
  refine ⟨W.heap.size + 1, [{ target := .collected W.heap.size, args := #[] }], W1, { target := .fn (.func 135) #[.pointer (some ⟨bx, 0, none⟩)], args := #[.func (.yield (W.heap.size + 1)) #[] #[]] }, W1, 135,
    #[.func (.yield (W.heap.size + 1)) #[] #[], .pointer (some ⟨bx, 0, none⟩)], W1, ?_, ?_, ?_, ?_, fun h => (by cases h), ?_⟩
  · rw [← hW1, hrec]; exact run_enterLoop_outer _ _ _ _ _
  · simp only [resolve, hg]
    simp [go_sem]
  · exact fun f' _ => trivial
  · simp [invoke, go_sem, enters_of Tryd.func135 (by kernel_rfl) rfl]
  · refine (before1_in (preP p) (W.heap.size + 1) (fun k => k = W.heap.size + 1 ∨ k = b1) R W1 (fun b o hbo => by rintro (e | e); (· have := hR b o hbo; omega); exact hRb b o hbo e) (fun b o hbo => by have := hR b o hbo; omega) (fun k hk => by rcases hk with e | e <;> omega)
      (fun pre A => I pre A ∧ A.heap[W.heap.size + 1]? = some (.loop (rec .ready none)) ∧ A.heap[W.heap.size]? = some (.deferred (some [])))
      (fun pre A => Ix pre A ∧ A.heap[W.heap.size + 1]? = some (.loop (rec .done (some .ret))) ∧ A.heap[W.heap.size]? = some (.deferred (some [])))
      ?hj ?hy p _ c0 c1 c2 c3 W1 bx ((hK1.block _ (Array.getElem?_eq_some_iff.1 hbx).1 id).trans hbx) hN rfl hv1 (KeepX.refl _ _) ⟨hI1, hL1, hD1⟩).mono ?_
    case hj =>
      rintro s A B ⟨hi, hl, hd⟩ hk
      have hlt : W.heap.size + 1 < A.heap.size := (Array.getElem?_eq_some_iff.1 hl).1
      exact ⟨hI _ _ _ hi fun k hk' => hk.block k (by omega) id, (hk.block _ hlt id).trans hl, (hk.block _ (by omega) id).trans hd⟩
    case hy =>
      rintro m pre vq q A hpre hvq hKA ⟨hi, hl, hd⟩
      have hlt : W.heap.size + 1 < A.heap.size := (Array.getElem?_eq_some_iff.1 hl).1
      have hy := run_yield (P := Tryd.prog) (args := #[vq]) hl (by rw [hrec]; exact hps.symm)
      rw [hrec] at hy
      refine ⟨fn, _, assign, body, hy, roundIn_of_wpIn hfn ?_⟩
      clear hy
      have hvW : V R W vq (.agg (prC q)) := hvq.step (fun _ _ h => h) fun b o hbo => (hK1.cell (hR b o hbo) id).symm
      refine wpIn_mono (hround m (W.heap.size + 1) pre q vq A (by omega) hlt hpre hvW (hfin hKA) hi) ?_
      rintro e a1 w1 hq
      cases e with
      | normal =>
        obtain ⟨hka, hbody⟩ := hq
        have hl1 := (hka.block _ hlt id).trans hl
        refine ⟨_, run_beginRound hl1 (by rw [hrec]), ?_⟩
        have hkb : KeepX (fun k => k = W.heap.size + 1) w1 (w1.putObj (W.heap.size + 1) (.loop { rec .ready none with state := .busy })) := KeepX.putObj (X := fun k => k = W.heap.size + 1) _ rfl _
        have hl2 : (w1.putObj (W.heap.size + 1) (.loop { rec .ready none with state := .busy })).heap[W.heap.size + 1]? = some (.loop { rec .ready none with state := .busy }) := World.putObj_heap_same (Array.getElem?_eq_some_iff.1 hl1).1
        have hsz := hka.size
        refine wpIn_mono (hbody _ hkb) ?_
        have fin : ∀ (jump : Option Code) (w3 : World), KeepX (fun k => k = b1) (w1.putObj (W.heap.size + 1) (.loop { rec .ready none with state := .busy })) w3 →
            (Instr.endRound (W.heap.size + 1) jump).run Tryd.prog w3 = .ok (.bool jump.isNone) (w3.putObj (W.heap.size + 1) (.loop (rec (if jump.isNone then .ready else .done) jump))) ∧
            (w3.putObj (W.heap.size + 1) (.loop (rec (if jump.isNone then .ready else .done) jump))).heap[W.heap.size + 1]? = some (.loop (rec (if jump.isNone then .ready else .done) jump)) ∧
            (w3.putObj (W.heap.size + 1) (.loop (rec (if jump.isNone then .ready else .done) jump))).heap[W.heap.size]? = some (.deferred (some [])) ∧
            KeepX (fun k => k = W.heap.size + 1 ∨ k = b1) A (w3.putObj (W.heap.size + 1) (.loop (rec (if jump.isNone then .ready else .done) jump))) := fun jump w3 hk3 => by
          have hl3 := (hk3.block _ (by simp; omega) (by omega)).trans hl2
          have := run_endRound (P := Tryd.prog) jump hl3
          rw [hrec] at this ⊢
          refine ⟨this, World.putObj_heap_same (Array.getElem?_eq_some_iff.1 hl3).1, ?_, ?_⟩
          · refine (World.putObj_heap_other (by omega)).trans ((hk3.block _ (by simp; omega) (by omega)).trans ?_)
            exact (World.putObj_heap_other (by omega)).trans ((hka.block _ (by omega) id).trans hd)
          · exact (hka.weaken fun _ h => h.elim).trans ((hkb.weaken fun _ h => .inl h).trans ((hk3.weaken fun _ h => .inr h).trans (KeepX.putObj _ (.inl rfl) _)))
        rintro e a3 w3 hp
        cases e with
        | normal =>
          obtain ⟨hk3, hi3⟩ := hp
          obtain ⟨h1, h2, h3, h4⟩ := fin none w3 hk3
          exact ⟨_, _, h1, .inl ⟨rfl, ⟨hI _ _ _ hi3 fun k hk => World.putObj_heap_other (by omega), h2, h3⟩, h4⟩⟩
        | ret =>
          obtain ⟨hk3, hi3⟩ := hp
          obtain ⟨h1, h2, h3, h4⟩ := fin (some .ret) w3 hk3
          exact ⟨_, _, h1, .inr ⟨rfl, ⟨hIx _ _ _ hi3 fun k hk => World.putObj_heap_other (by omega), h2, h3⟩, h4⟩⟩
        | exit id => exact hp.elim
        | goto t => exact hp.elim
        | panic ch => exact hp.elim
        | outgrown => exact hp.elim
      | ret => exact hq.elim
      | exit id => exact hq.elim
      | goto t => exact hq.elim
      | panic ch => exact hq.elim
      | outgrown => exact hq.elim
    · rintro e W2 ⟨v, rfl, (⟨⟨hi, hl, hd⟩, hK⟩ | ⟨pre, hpre, ⟨hi, hl, hd⟩, hK⟩)⟩
      · refine ⟨none, _, by have := run_endLoop (P := Tryd.prog) hl (by rw [hrec]; simp); rw [hrec] at this; exact this, ?_⟩
        exact hdone _ _ (Nat.le_refl _) (hI _ _ _ hi fun k hk => World.putObj_heap_other (by omega)) (hfin (hK.trans (KeepX.putObj _ (.inl rfl) _))) ((World.putObj_heap_other (by omega)).trans hd)
      · refine ⟨some .ret, _, by have := run_endLoop (P := Tryd.prog) hl (by rw [hrec]; simp); rw [hrec] at this; exact this, ?_⟩
        exact wpIn_ret (hstop _ pre _ (Nat.le_refl _) hpre (hIx _ _ _ hi fun k hk => World.putObj_heap_other (by omega)) (hfin (hK.trans (KeepX.putObj _ (.inl rfl) _))) ((World.putObj_heap_other (by omega)).trans hd))
theorem box_at {W : World} {b : Nat} {v : Value} {T : TypeId} (h : W.heap[b]? = some (.cells #[v] T (0, 0))) : W.cell? ⟨b, 0, none⟩ = some v ∧ W.frozen? ⟨b, 0, none⟩ = false := by
  unfold World.cell? World.frozen?
  rw [h]
  simp
theorem row_at {W : World} {b : Nat} {cs : Array Value} {T : TypeId} (h : W.heap[b]? = some (.cells cs T (0, 0))) (j : Nat) (v : Value) (hj : cs[j]? = some v) : W.cell? ⟨b, j, none⟩ = some v := by
  unfold World.cell?
  rw [h]
  simp [hj]
theorem set_at {W : World} {b : Nat} {v : Value} {T : TypeId} (h : W.heap[b]? = some (.cells #[v] T (0, 0))) (u : Value) : (W.setCell ⟨b, 0, none⟩ u).heap[b]? = some (.cells #[u] T (0, 0)) := by
  obtain ⟨hlt, hh⟩ := Array.getElem?_eq_some_iff.1 h
  show (W.heap.modify b _)[b]? = _
  rw [Array.getElem?_eq_getElem (by rw [Array.size_modify]; exact hlt), Array.getElem_modify_self, hh]
  simp
theorem KeepX.set {X : Nat → Prop} (A : World) {b : Nat} (hl : X b) (u : Value) : KeepX X A (A.setCell ⟨b, 0, none⟩ u) := ⟨rfl, rfl, rfl, by show A.heap.size ≤ (A.heap.modify _ _).size; rw [Array.size_modify]; exact Nat.le_refl _, fun k _ hx => Below.heap_setCell A ⟨b, 0, none⟩ u k fun e => hx (by rw [show k = b from e]; exact hl)⟩
/-- The first error of the nodes. -/
def firstE (e : Pr → Int) : List Pr → Int
  | [] => 0
  | p :: r => if e p = 0 then firstE e r else e p
theorem firstE_zero {e : Pr → Int} : ∀ {l : List Pr}, (∀ q ∈ l, e q = 0) → firstE e l = 0
  | [], _ => rfl
  | p :: r, h => by
    rw [firstE, if_pos (h p (by simp))]
    exact firstE_zero fun q hq => h q (by simp [hq])
theorem firstE_at {e : Pr → Int} {p : Pr} : ∀ {l r : List Pr}, (∀ q ∈ l, e q = 0) → e p ≠ 0 → firstE e (l ++ p :: r) = e p
  | [], r, _, hp => by simp [firstE, hp]
  | q :: l, r, h, hp => by
    rw [List.cons_append, firstE, if_pos (h q (by simp))]
    exact firstE_at (fun q hq => h q (by simp [hq])) hp
def chkP (e : Pr → Int) (p : Pr) : Int := if 400 < nodP p then 7 else if 40 < depP p then 8 else firstE e (preP p)
theorem pred_Check_of {G : GT} (e : Pr → Int) (p : Pr) (hN : nodP p ≤ 1000000) (hNod : CS Tryd.prog G 127 [.agg (prC p)] (.d (.int .i64 (nodP p))) none) (hDep : CS Tryd.prog G 128 [.agg (prC p)] (.d (.int .i64 (depP p))) none)
    (hnode : ∀ q ∈ preP p, CS Tryd.prog G 130 [.agg (prC q)] (.d (.int .i64 (e q))) none) : CS Tryd.prog G 123 [.agg (prC p)] (.d (.int .i64 (chkP e p))) none := by
  refine CS.ofLib fun w R args hg hR hs hv => ?_
  have ha : args = #[args.getD 0 undef] := by
    obtain ⟨l⟩ := args
    match l, hs with
    | [a], _ => rfl
  have hv0 := hv 0 _ rfl
  rw [ha]
  generalize args.getD 0 undef = v at hv0
  clear hv ha hs args
  obtain ⟨ao, cap, nm, rfl, hk⟩ := V_pr hv0
  refine (callsIn_wide (n := 10)).1 (callsIn_of_wp_marks Tryd.func123 rfl trivial ?_ rfl)
  simp only [Tryd.ntmps123, List.size_toArray, List.length_cons, List.length_nil, Nat.reduceAdd, Nat.reduceSub, Array.replicate_succ, Array.replicate_zero, List.push_toArray, List.append_toArray, List.nil_append, List.cons_append]
  have hcall : ∀ {f : FuncId} {z : Int} (m : Nat) (q : Pr) (vq : Value) (W : World), CS Tryd.prog G f [.agg (prC q)] (.d (.int .i64 z)) none → V R w vq (.agg (prC q)) → KeepX NoX w W →
      CallsIn Fence.wide m Tryd.prog f #[vq] W fun e w' => e = .returned (.int .i64 z) ∧ KeepX NoX W w' := fun m q vq W hc hvq hW => by
    refine cs_wide hc (R := R) m (glob_keep hg hW.size hR fun k hk => hW.block k hk id) (fun b o hbo => Nat.lt_of_lt_of_le (hR b o hbo) hW.size) rfl fun i d hd => ?_
    match i, hd with
    | 0, hd =>
      cases hd
      exact hvq.step (fun _ _ h => h) fun b o hbo => hW.cell (hR b o hbo) id
  gi_wp2
  obtain ⟨W2, hW2⟩ : ∃ W2, (w.alloc (.cells #[.int .i64 p.op, .string nm, .int .i64 p.n, .slice ao p.kids.length cap] 31)).alloc (.cells #[.int .i64 0] 82) = W2 := ⟨_, rfl⟩
  have hK2 : KeepX NoX w W2 := by rw [← hW2]; exact ((KeepX.refl _ _).alloc _).alloc _
  have hs2 : W2.heap.size = w.heap.size + 2 := by rw [← hW2]; simp
  have hB2 : W2.heap[w.heap.size + 1]? = some (.cells #[.int .i64 0] 82 (0, 0)) := by
    rw [← hW2]; have := World.alloc_heap_new (w.alloc (.cells #[.int .i64 p.op, .string nm, .int .i64 p.n, .slice ao p.kids.length cap] 31)) (.cells #[.int .i64 0] 82); rwa [World.size_alloc] at this
  have hA2 : W2.heap[w.heap.size]? = some (.cells #[.int .i64 p.op, .string nm, .int .i64 p.n, .slice ao p.kids.length cap] 31 (0, 0)) := by
    rw [← hW2]; exact (Below.heap_alloc _ _ _ (by simp)).trans (World.alloc_heap_new w _)
  rw [hW2]
  refine ⟨trivial, (hcall _ p _ _ hNod hv0 hK2).mono ?_⟩
  rintro _ W3 ⟨rfl, hK3⟩
  have hB3 := (hK3.block _ (by omega) id).trans hB2
  have hA3 := (hK3.block _ (by omega) id).trans hA2
  have hs3 := hK3.size
  obtain ⟨hc3, hf3⟩ := box_at hB3
  have q0 := (row_at hA3 0 _ rfl)
  have q1 := (row_at hA3 1 _ rfl)
  have q2 := (row_at hA3 2 _ rfl)
  have q3 := (row_at hA3 3 _ rfl)
  have fin : ∀ {W : World} {z : Int} {K : World}, K.heap[w.heap.size + 1]? = some (.cells #[.int .i64 z] 82 (0, 0)) → KeepX NoX w W → z = chkP e p → ∃ v, Ending.returned (.int .i64 z) = .returned v ∧ V R W v (.int .i64 (chkP e p)) ∧ Below w.heap.size w W := fun h hk hz => ⟨_, rfl, hz ▸ .int _ _, ⟨hk.os, hk.tape, hk.output, hk.size, fun k h' => hk.block k h' id⟩⟩
  by_cases h1 : 400 < nodP p
  · gi_wp2
    have hS := set_at hB3 (.int .i64 7)
    have hc := (box_at hS).1
    exact ⟨_, by simp [results, Tryd.f123, go_sem, hc], fin hS (keep_new (((hK2.trans hK3).weaken fun _ h => h.elim).trans (KeepX.set (X := fun k => k = w.heap.size + 1) _ rfl _)) (by intro k hk; omega)) (by simp [chkP, h1])⟩
  · gi_wp2
    refine ⟨trivial, (hcall _ p _ _ hDep hv0 (hK2.trans hK3)).mono ?_⟩
    rintro _ W4 ⟨rfl, hK4⟩
    have hs4 := hK4.size
    have hB4 := (hK4.block _ (by omega) id).trans hB3
    have hA4 := (hK4.block _ (by omega) id).trans hA3
    obtain ⟨hc4, hf4⟩ := box_at hB4
    have r0 := (row_at hA4 0 _ rfl)
    have r1 := (row_at hA4 1 _ rfl)
    have r2 := (row_at hA4 2 _ rfl)
    have r3 := (row_at hA4 3 _ rfl)
    have hKw4 := (hK2.trans hK3).trans hK4
    by_cases h2 : 40 < depP p
    · gi_wp2
      have hS := set_at hB4 (.int .i64 8)
      have hc := (box_at hS).1
      exact ⟨_, by simp [results, Tryd.f123, go_sem, hc], fin hS (keep_new ((hKw4.weaken fun _ h => h.elim).trans (KeepX.set (X := fun k => k = w.heap.size + 1) _ rfl _)) (by intro k hk; omega)) (by simp [chkP, h1, h2])⟩
    · gi_wp2
      refine ⟨trivial, (before_in _ _ _ _ _ _).mono ?_⟩
      rintro _ W5 ⟨rfl, rfl⟩
      gi_wp2
      obtain ⟨W5, hW5⟩ : ∃ W5, W4.alloc (.cells #[.int .i64 p.op, .string nm, .int .i64 p.n, .slice ao p.kids.length cap] 31) = W5 := ⟨_, rfl⟩
      have hK5 : KeepX NoX W4 W5 := by rw [← hW5]; exact (KeepX.refl _ _).alloc _
      have hB5 := (hK5.block _ (by omega) id).trans hB4
      have hA5 : W5.heap[W4.heap.size]? = some (.cells #[.int .i64 p.op, .string nm, .int .i64 p.n, .slice ao p.kids.length cap] 31 (0, 0)) := by rw [← hW5]; exact World.alloc_heap_new _ _
      have hs5 : W5.heap.size = W4.heap.size + 1 := by rw [← hW5]; simp
      have hKw5 := hKw4.trans hK5
      rw [hW5]
      refine wp_range 10 (W := W5) (R := R) (p := p) rfl hA5 rfl (hv0.step (fun _ _ h => h) fun b o hbo => hKw5.cell (hR b o hbo) id) hN (fun b o hbo => by have := hR b o hbo; omega) (w.heap.size + 1) (by omega) (fun b o hbo => by have := hR b o hbo; omega) (by omega)
        (fun pre A => A.heap[w.heap.size + 1]? = some (.cells #[.int .i64 0] 82 (0, 0)) ∧ ∀ q ∈ pre, e q = 0)
        (fun pre A => ∃ pre' q, pre = pre' ++ [q] ∧ (∀ x ∈ pre', e x = 0) ∧ e q ≠ 0 ∧ A.heap[w.heap.size + 1]? = some (.cells #[.int .i64 (e q)] 82 (0, 0)))
        (fun s A B h hk => ⟨(hk _ (by omega)).trans h.1, h.2⟩) (fun s A B ⟨pre', q, h1, h2, h3, h4⟩ hk => ⟨pre', q, h1, h2, h3, (hk _ (by omega)).trans h4⟩) ⟨hB5, by simp⟩ ?hround ?hdone ?hstop
      case hround =>
        rintro m l pre q vq W6 hl hl6 hpre hvq hK6 ⟨hB6, hz⟩
        obtain ⟨ao2, cap2, nm2, rfl, _⟩ := V_pr hvq
        have hqm : q ∈ preP p := hpre.subset (by simp)
        have hvw : V R w _ (.agg (prC q)) := hvq.step (fun _ _ h => h) fun b o hbo => (hKw5.cell (hR b o hbo) id).symm
        gi_wp2
        refine ⟨(KeepX.refl _ _).alloc _, fun w2 hk2 => ?_⟩
        have hA7 := (hk2.block W6.heap.size (by simp) (by omega)).trans (World.alloc_heap_new _ _)
        have hs6 := hK6.size
        have hB7 := ((hk2.block (w.heap.size + 1) (by simp; omega) (by omega)).trans (Below.heap_alloc _ _ _ (by omega))).trans hB6
        have hs7 := hk2.size
        simp only [World.size_alloc] at hs7
        have hKw7 : KeepX NoX w w2 := keep_new (X := fun k => k = w.heap.size + 1 ∨ k = l) ((hKw5.weaken fun _ h => h.elim).trans ((hK6.weaken fun _ h => .inl h).trans (((KeepX.refl _ _).alloc _).trans (hk2.weaken fun _ h => .inr h)))) (by rintro k (hk | hk) <;> omega)
        have t0 := (row_at hA7 0 _ rfl)
        have t1 := (row_at hA7 1 _ rfl)
        have t2 := (row_at hA7 2 _ rfl)
        have t3 := (row_at hA7 3 _ rfl)
        gi_wp2
        refine ⟨trivial, fun h => (by cases h), (CallsIn.inRound l (hcall _ q _ _ (hnode q hqm) hvw hKw7)).mono ?_⟩
        rintro _ W8 ⟨rfl, hK8⟩
        have hB8 := (hK8.block _ (by omega) id).trans hB7
        obtain ⟨hc8, hf8⟩ := box_at hB8
        by_cases he : e q = 0
        · gi_wp2
          have hall : ∀ x, x ∈ pre ∨ x = q → e x = 0 := fun x hx => hx.elim (hz x) fun hx => by subst hx; exact he
          first | exact hall | exact ⟨hK8.up, hall⟩ | exact ⟨hK8.up, hB8, hall⟩
        · gi_wp2
          have hS := set_at hB8 (.int .i64 (e q))
          exact ⟨hK8.up.trans (KeepX.set (X := fun k => k = w.heap.size + 1) _ rfl _), pre, q, ⟨rfl, rfl⟩, hz, he, hS⟩
      case hdone =>
        rintro D W' hD ⟨hB', hz⟩ hK' hD'
        obtain ⟨hc', hf'⟩ := box_at hB'
        gi_wp2
        have hS := set_at hB' (.int .i64 0)
        have hDs := ((KeepX.set (X := fun k => k = w.heap.size + 1) W' rfl (.int .i64 0)).block D (Array.getElem?_eq_some_iff.1 hD').1 (by omega)).trans hD'
        refine ⟨by simp, .inl ⟨_, _, rfl, run_takeDeferred hDs, ?_⟩⟩
        have hS2 := (World.putObj_heap_other (r := D) (o := .deferred none) (show w.heap.size + 1 ≠ D by omega)).trans hS
        have hc := (box_at hS2).1
        exact ⟨_, by simp [results, Tryd.f123, go_sem, hc], fin hS2 (keep_new (X := fun k => k = w.heap.size + 1 ∨ k = D) ((hKw5.weaken fun _ h => h.elim).trans ((hK'.weaken fun _ h => .inl h).trans ((KeepX.set (X := fun k => k = w.heap.size + 1 ∨ k = D) _ (.inl rfl) _).trans (KeepX.putObj _ (.inr rfl) _)))) (by rintro k (hk | hk) <;> omega)) (by simp [chkP, h1, h2, firstE_zero hz])⟩
      case hstop =>
        rintro D pre W' hD hpre ⟨pre', q, rfl, hz, hq, hB'⟩ hK' hD'
        gi_wp2
        refine ⟨by simp, .inl ⟨_, _, rfl, run_takeDeferred hD', ?_⟩⟩
        have hS2 := (World.putObj_heap_other (r := D) (o := .deferred none) (show w.heap.size + 1 ≠ D by omega)).trans hB'
        have hc := (box_at hS2).1
        have hfe : firstE e (preP p) = e q := by
          obtain ⟨r, hr⟩ := hpre
          rw [← hr, List.append_assoc]
          exact firstE_at hz hq
        exact ⟨_, by simp [results, Tryd.f123, go_sem, hc], fin hS2 (keep_new (X := fun k => k = w.heap.size + 1 ∨ k = D) ((hKw5.weaken fun _ h => h.elim).trans ((hK'.weaken fun _ h => .inl h).trans (KeepX.putObj _ (.inr rfl) _))) (by rintro k (hk | hk) <;> omega)) (by simp [chkP, h1, h2, hfe])⟩
end Go.Proofs.YthikbenglkfioaaDoor
