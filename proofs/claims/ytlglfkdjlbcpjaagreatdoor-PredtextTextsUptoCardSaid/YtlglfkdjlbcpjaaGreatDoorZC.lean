/- Joined texts. strings.Builder: copyCheck and String, with the worlds that they leave. strings.Builder under the machine: what its methods are to a caller. Tokens: Text; the walk. No condition. -/
import Derived.Lib.Builder
import Derived.Lib.UnsafeStr
import Derived.Lib.Strings
import Derived.Lib.Walk
import Derived.WalkKit
import Derived.Deep.AppendSrc
import Derived.Test.YtlglfkdjlbcpjaaGreatDoorProg
import Derived.Test.YtlglfkdjlbcpjaaGreatDoorZV
import Derived.Test.YtlglfkdjlbcpjaaGreatDoorTy
import Derived.Test.YtlglfkdjlbcpjaaGreatDoorZB
section
set_option linter.unusedVariables false
set_option linter.unusedSimpArgs false
set_option linter.unusedSectionVars false
namespace Go.Proofs.YtlglfkdjlbcpjaaGreatDoor
open Go Go.RowKit
set_option maxRecDepth 100000
set_option maxHeartbeats 2000000
set_option linter.unusedVariables false
theorem bldInfo : ∃ j, Tryz.prog.info? 70 = some j ∧ j.size = 2 := Option.map_eq_some_iff.1 (by kernel_rfl : (Tryz.prog.info? 70).map (·.size) = some 2)
theorem bldPtr : Tryz.prog.underlying 67 = some (.pointer 70) := by kernel_rfl
theorem bldUns : Tryz.prog.underlying 120 = some .unsafePointer := by kernel_rfl
theorem bldLies : liesAt Tryz.prog Tryz.prog.depth 70 (2 / Tryz.prog.cellsOf 70) 0 70 1 = true := by kernel_rfl
/-- A builder that has been used: nothing turns. -/
theorem copyCheck_used (b : Nat) (w : World) (h0 : w.cell? ⟨b, 0, none⟩ = some (.pointer (some ⟨b, 0, none⟩))) :
    Calls Tryz.prog 60 #[.pointer (some ⟨b, 0, none⟩)] w fun e w' => e = .returned (.tuple #[]) ∧ w' = w := by
  obtain ⟨j, hj, _⟩ := bldInfo
  go_enter Tryz.func60, Tryz.ntmps60
  go_wp2
  rw [Lib.run_neq_ptr_same w _ bldPtr hj]
  go_wp2
  go_end0
  exact ⟨rfl, rfl⟩
/-- A builder that has not been used: it stores its own address. -/
theorem copyCheck_fresh (b : Nat) (w : World) (h0 : w.cell? ⟨b, 0, none⟩ = some (.pointer none)) (hsh : w.shape? b = some (70, 2)) (hfz : w.frozen? ⟨b, 0, none⟩ = false) :
    Calls Tryz.prog 60 #[.pointer (some ⟨b, 0, none⟩)] w fun e w' => e = .returned (.tuple #[]) ∧ w' = w.setCell ⟨b, 0, none⟩ (.pointer (some ⟨b, 0, none⟩)) := by
  obtain ⟨j, hj, hjs⟩ := bldInfo
  go_enter Tryz.func60, Tryz.ntmps60
  go_wp2
  rw [Lib.run_to_unsafe w ⟨b, 0, none⟩ bldPtr bldUns hj (by rw [hjs]; decide) hsh (Nat.zero_lt_succ 1)]
  simp only [Result.andThen]
  rw [Oper.upon_value]
  go_wp2
  rw [run_callFunc_extern Tryz.func90 (by kernel_rfl) (by kernel_rfl) (by kernel_rfl) (e := Extern.AbiNoEscape.same) (by kernel_rfl)]
  rw [Lib.run_noEscape]
  simp only [Result.andThen]
  rw [Oper.upon_value]
  go_wp2
  rw [Lib.run_from_unsafe w ⟨b, 0, none⟩ bldUns bldPtr hj hsh bldLies]
  simp only [Result.andThen]
  rw [Oper.upon_value]
  go_wp2
  go_end0
  exact ⟨rfl, rfl⟩
/-- An append that gives back what it got. -/
theorem wpList_appSame {P : Program} {w : World} {ops : Array Oper} {rest : List Oper} {o : Oper} {a : Act} {Q : Exit → Act → World → Prop} (hgd : o.guard = none) (sl x : Operand) (t u : TypeId) (ho : o.op = .call { callee := .builtin .append, args := #[sl, x], argTypes := #[t, u] })
    (v s : Value) (hs : a.eval sl = v) (hx : a.eval x = s) (hr : (Builtin.append_ #[t, u] o.type #[v, s]).run P w = .ok v w) (h : ∀ u, u = v → wpList P ops Q rest (a.put o.dst u) w) : wpList P ops Q (o :: rest) a w := by
  refine wpList_plain hgd fun K hK => ?_
  unfold Oper.wp execOp
  simp only [ho, resolve, invoke, builtin, Sem.run_bind, Sem.run_pure, Result.andThen_ok, List.map_toArray, List.map_cons, List.map_nil, hs, hx, hr]
  exact hK _ _ (h v rfl)
/-- WriteString of no text to a builder that holds none: it is a used one, no more. -/
theorem WriteString_zero (b : Nat) (ao : Option Addr) (cap : Nat) (w w1 : World) (hcc : Calls Tryz.prog 60 #[.pointer (some ⟨b, 0, none⟩)] w fun e w' => e = .returned (.tuple #[]) ∧ w' = w1)
    (v : Value) (hv : v = .slice ao 0 cap) (hc : w1.cell? ⟨b, 1, none⟩ = some v) (hfz : w1.frozen? ⟨b, 1, none⟩ = false) :
    Calls Tryz.prog 35 #[.pointer (some ⟨b, 0, none⟩), .string ⟨#[]⟩] w fun e w' => e = .returned (.tuple #[.int .i64 0, .nilIface]) ∧ w' = w1.setCell ⟨b, 1, none⟩ v := by
  subst hv
  have hap : ∀ W : World, (Builtin.append_ #[68, 9] 68 #[.slice ao 0 cap, .string ⟨#[]⟩]).run Tryz.prog W = .ok (.slice ao 0 cap) W := fun W => by
    have hu : Tryz.prog.underlying 68 = some (.slice 5) := by kernel_rfl
    have hk : Tryz.prog.underlying 9 = some .string := by kernel_rfl
    obtain ⟨i, hi, hi1⟩ := Option.map_eq_some_iff.1 (by kernel_rfl : (Tryz.prog.info? 5).map (·.size) = some 1)
    have hs : Src Tryz.prog i.size 9 (.string ⟨#[]⟩) 0 [] W := by
      rw [hi1]
      exact Src.ofString W hk ⟨#[]⟩
    rcases hs.kind with ⟨e', hk'⟩ | hk' <;> cases ao <;> simp [Builtin.append_, run_underlying hu, run_underlying hk', sizeOf, typeInfo, hi, hs.len, hs.cells, storeCells]
  go_enter Tryz.func35, Tryz.ntmps35
  go_wp2_with (go_at_call 60; refine hcc.mono ?_)
  rintro e w' ⟨rfl, rfl⟩
  go_wp2_with (at_builtin; refine wpList_appSame rfl _ _ _ _ rfl _ _ rfl rfl (hap _) ?_; intro u hu; subst hu)
  go_ret2
  exact ⟨rfl, rfl⟩
/-- String of a builder that holds bytes: they are frozen in its row. -/
theorem String_row (b g n cap : Nat) (cur : Array Value) (l : List UInt8) (w : World) (hc : w.cell? ⟨b, 1, none⟩ = some (.slice (some ⟨g, 0, none⟩) n cap)) (hn : n = l.length) (h0 : l ≠ []) (hnc : n ≤ cap) (hcm : cap ≤ maxLen) (hg : w.heap[g]? = some (.cells cur 5 (0, 0))) (hcs : cur.size = cap)
    (hcells : ∀ (j : Nat) (x : UInt8), l[j]? = some x → w.cell? ⟨g, j, none⟩ = some (.int .u8 x.toNat)) :
    Calls Tryz.prog 37 #[.pointer (some ⟨b, 0, none⟩)] w fun e w' => e = .returned (.string ⟨l.toArray⟩) ∧ w' = w.drew.freeze ⟨g, 0, none⟩ l.length := by
  subst hn
  have c1 : w.drew.cell? ⟨b, 1, none⟩ = some (.slice (some ⟨g, 0, none⟩) l.length cap) := hc
  have hl0 : l.length ≠ 0 := by simpa using h0
  have hSD : (Builtin.unsafeSliceData_ #[68] 94 #[.slice (some ⟨g, 0, none⟩) l.length cap]).run Tryz.prog w.drew = .ok (.pointer (some ⟨g, 0, none⟩)) w.drew :=
    Lib.run_unsafeSliceData_row _ _ _ _ _ _ (by omega)
  have hUS : (Builtin.unsafeString_ #[94, 3] 9 #[.pointer (some ⟨g, 0, none⟩), .int .i64 l.length]).run Tryz.prog w.drew = .ok (.string ⟨l.toArray⟩) (w.drew.freeze ⟨g, 0, none⟩ l.length) := by
    refine Lib.run_unsafeString_row w.drew 94 3 9 5 (by kernel_rfl) (by kernel_rfl) g cur.size (by have hg' : w.drew.heap[g]? = some (.cells cur 5 (0, 0)) := hg; simp [World.shape?, hg']) l h0 (by omega) (by unfold maxLen at hcm; omega) ?_
    intro j x hx
    have := hcells j x hx
    by_cases hj : j = 0
    · subst hj; simpa [Addr.add] using this
    · simpa [Addr.add, hj] using this
  go_enter Tryz.func37, Tryz.ntmps37
  go_wp2
  go_region
  all_goals (go_wp2; go_ret; exact ⟨rfl, rfl⟩)
/-- String of a builder that holds none. -/
theorem String_none (b : Nat) (ao : Option Addr) (cap : Nat) (w : World) (hc : w.cell? ⟨b, 1, none⟩ = some (.slice ao 0 cap)) (hx : ao = none ∨ cap ≠ 0) :
    Calls Tryz.prog 37 #[.pointer (some ⟨b, 0, none⟩)] w fun e w' => e = .returned (.string ⟨#[]⟩) ∧ w' = w.drew := by
  have c1 : w.drew.cell? ⟨b, 1, none⟩ = some (.slice ao 0 cap) := hc
  have hUS : ∀ (W : World) (q : Option Addr), (Builtin.unsafeString_ #[94, 3] 9 #[.pointer q, .int .i64 0]).run Tryz.prog W = .ok (.string .empty) W := fun W q => Lib.run_unsafeString_none W _ _ _ q
  have hSD : (Builtin.unsafeSliceData_ #[68] 94 #[.slice ao 0 cap]).run Tryz.prog w.drew = .ok (.pointer ao) w.drew := by
    rcases hx with rfl | hx
    · rfl
    · cases ao with
      | none => rfl
      | some a => exact Lib.run_unsafeSliceData_row _ _ _ _ _ _ hx
  clear hx
  go_enter Tryz.func37, Tryz.ntmps37
  go_wp2
  go_region
  all_goals (go_wp2; go_ret; exact ⟨rfl, rfl⟩)
end Go.Proofs.YtlglfkdjlbcpjaaGreatDoor
end

section
set_option linter.unusedVariables false
set_option linter.unusedSimpArgs false
set_option linter.unusedSectionVars false
namespace Go.VM
open Go Go.RowKit
section
variable {P : Program} {G : GT} {st : St} {base : Base} {R : Nat → Nat → Prop} {μ : Nat → Nat} {a : Act} {w w' : World}
def noT (own : List (TypeId × List Loc)) : Prop := ∀ c ∈ own, ∀ l ∈ c.2, ∃ k off, l = Loc.c k off
/-- The same world, seen by a caller that gets v. -/
theorem Rel.seen (h : Rel P G base R μ st a w) (hn : noT st.own) {v : Value} {r : DV} (ht : TV R μ w v r) : Rel P G base R μ ⟨[r], st.H, st.own⟩ { tmps := #[v], defers := [] } w := by
  refine ⟨rfl, rfl, fun i u d hu hd => ?_, h.objs, h.inj, h.locs, ?_, h.glob, h.rset, h.base, h.pass⟩
  · cases i with
    | zero => simp at hu hd; subst hu hd; exact ht
    | succ i => simp at hd
  · obtain ⟨vs, hvs⟩ := h.own
    refine ⟨vs, hvs.len, fun i c v hc hv => ?_, hvs.apart⟩
    have ho := hvs.one i c v hc hv
    refine ⟨fun l hl u hu => ?_, ho.own, ho.keys⟩
    obtain ⟨k, off, rfl⟩ := hn c (List.mem_of_getElem? hc) l hl
    exact ho.locs _ hl u hu
theorem freeze_heap (w : World) (g m k : Nat) (hk : k ≠ g) : (w.freeze ⟨g, 0, none⟩ m).heap[k]? = w.heap[k]? := by
  unfold World.freeze
  split
  · rfl
  · simp [Array.getElem?_modify, Ne.symm hk]
theorem freeze_cell (w : World) (g m k o : Nat) : (w.freeze ⟨g, 0, none⟩ m).cell? ⟨k, o, none⟩ = w.cell? ⟨k, o, none⟩ := by
  unfold World.freeze
  split
  · rfl
  · unfold World.cell?
    simp only [Array.getElem?_modify]
    by_cases hk : g = k
    · subst hk
      simp only [if_true]
      cases w.heap[g]? with
      | none => rfl
      | some o => cases o <;> rfl
    · simp [hk]
theorem freeze_size (w : World) (g m : Nat) : (w.freeze ⟨g, 0, none⟩ m).heap.size = w.heap.size := by
  unfold World.freeze
  split <;> simp
/-- A row that nobody owns any more is frozen. -/
theorem Rel.froze (h : Rel P G base R μ st a w) (g m : Nat) (hbg : base g) (hk : ∀ k o, getKey k st.H = some o → μ k ≠ g) (hvs : ∃ vs, Owns P base R μ st a w vs ∧ ∀ v ∈ vs, spareBlk v ≠ some g) :
    Rel P G base R μ st a (w.drew.freeze ⟨g, 0, none⟩ m) ∧ Step base R w R (w.drew.freeze ⟨g, 0, none⟩ m) := by
  have hb : ∀ k, k ≠ g → (w.drew.freeze ⟨g, 0, none⟩ m).heap[k]? = w.heap[k]? := fun k hk => freeze_heap w.drew g m k hk
  have hc : ∀ k o, (w.drew.freeze ⟨g, 0, none⟩ m).cell? ⟨k, o, none⟩ = w.cell? ⟨k, o, none⟩ := fun k o => freeze_cell w.drew g m k o
  have hsz : (w.drew.freeze ⟨g, 0, none⟩ m).heap.size = w.heap.size := freeze_size w.drew g m
  have hs : Step base R w R (w.drew.freeze ⟨g, 0, none⟩ m) := by
    refine ⟨⟨?_, ?_, ?_, by omega, fun k hk => hb k fun e => hk (e ▸ hbg)⟩, fun _ _ h => h, fun _ _ h h' => absurd h h', fun b o _ => hc b o⟩
    · unfold World.freeze; split <;> rfl
    · unfold World.freeze; split <;> rfl
    · unfold World.freeze; split <;> rfl
  generalize hw' : w.drew.freeze ⟨g, 0, none⟩ m = w' at hb hc hsz hs ⊢
  refine ⟨⟨h.defers, h.size, fun i v d hv hd => (h.tmps i v d hv hd).of_step hs, fun k o ho => ?_, h.inj, h.locs, ?_, h.glob.of_step hs, fun b o hr => by rw [hsz]; exact h.rset b o hr, by rw [hsz]; exact h.base, h.pass⟩, hs⟩
  · obtain ⟨h1, h2, h3⟩ := h.objs k o ho
    exact ⟨h1, h2, h3.of_step hs (hb _ (hk k o ho))⟩
  · obtain ⟨vs, hvs, hne⟩ := hvs
    refine ⟨vs, hvs.len, fun i c v hci hv => ?_, hvs.apart⟩
    have ho := hvs.one i c v hci hv
    refine ⟨fun l hl u hu => ho.locs l hl u ?_, ho.own.keep1 (fun g' hg' => hb g' fun e => hne v (List.mem_of_getElem? hv) (e ▸ hg')) (fun _ _ _ h => h), ho.keys⟩
    cases l with
    | t i => exact hu
    | c k off =>
      simp only [locVal] at hu ⊢
      rw [hc] at hu
      exact hu
/-- The same objects but one that reads otherwise, too. -/
theorem Rel.obj1 {t : List DV} {k : Nat} {o o' : AObj} {own : List (TypeId × List Loc)} (h : Rel P G base R μ ⟨t, [(k, o)], own⟩ a w) (ho : ObjRel R μ w (μ k) o → ObjRel R μ w (μ k) o') : Rel P G base R μ ⟨t, [(k, o')], own⟩ a w := by
  have hk : ∀ {k' : Nat} {o1 : AObj}, getKey k' [(k, o')] = some o1 → k' = k ∧ o1 = o' := fun {k' o1} h1 => by
    simp only [getKey] at h1
    split at h1
    · rename_i he; cases h1; exact ⟨he.symm, rfl⟩
    · cases h1
  have h0 : getKey k [(k, o)] = some o := by simp [getKey]
  refine ⟨h.defers, h.size, h.tmps, fun k' o1 h1 => ?_, fun k1 k2 o1 o2 h1 h2 _ => by rw [(hk h1).1, (hk h2).1], fun c hc k' off hl => ?_, ?_, h.glob, h.rset, h.base, h.pass⟩
  · obtain ⟨rfl, rfl⟩ := hk h1
    obtain ⟨q1, q2, q3⟩ := h.objs k' o h0
    exact ⟨q1, q2, ho q3⟩
  · obtain ⟨o1, h1⟩ := h.locs c hc k' off hl
    simp only [getKey] at h1
    split at h1
    · rename_i he; exact ⟨o', by simp [getKey, he]⟩
    · cases h1
  · obtain ⟨vs, hvs⟩ := h.own
    refine ⟨vs, hvs.len, fun i c v hc hv => ?_, hvs.apart⟩
    have hq := hvs.one i c v hc hv
    refine ⟨hq.locs, hq.own, fun k' o1 h1 => ?_⟩
    obtain ⟨rfl, rfl⟩ := hk h1
    exact hq.keys k' o h0
def locU : Loc → Option Loc
  | .t _ => none
  | .c k off => some (.c k off)
/-- What a caller keeps of the last state, when the results are not looked at. -/
def retU (s : St) : St := ⟨[.undef], s.H, s.own.map fun c => (c.1, c.2.filterMap locU)⟩
theorem Rel.retU (h : Rel P G base R μ st a w) (v : Value) : Rel P G base R μ (retU st) { tmps := #[v], defers := [] } w := by
  refine ⟨rfl, rfl, fun i u d hu hd => ?_, h.objs, h.inj, fun c hc k off hl => ?_, ?_, h.glob, h.rset, h.base, h.pass⟩
  · cases i with
    | zero => simp [VM.retU] at hu hd; subst hu hd; exact .undef _
    | succ i => simp at hu
  · simp only [VM.retU, List.mem_map] at hc
    obtain ⟨c0, hc0, rfl⟩ := hc
    simp only [List.mem_filterMap] at hl
    obtain ⟨l0, hl0, he⟩ := hl
    cases l0 with
    | t j => cases he
    | c k' off' => cases he; exact h.locs c0 hc0 k off hl0
  · obtain ⟨vs, hl, h1, hap⟩ := h.own
    refine ⟨vs, by simpa [VM.retU] using hl, fun i c u hc hu => ?_, hap⟩
    simp only [VM.retU, List.getElem?_map] at hc
    obtain ⟨c0, hc0, rfl⟩ := Option.map_eq_some_iff.1 hc
    have ho := h1 i c0 u hc0 hu
    refine ⟨fun l hl u' hu' => ?_, ho.own, ho.keys⟩
    simp only [List.mem_filterMap] at hl
    obtain ⟨l0, hl0, he⟩ := hl
    cases l0 with
    | t j => cases he
    | c k' off' => cases he; exact ho.locs _ hl0 u' hu'
/-- A contract with objects whose results are not looked at. -/
theorem CH.of_VKu {f : FuncId} {fn : Func} {c : Code} {n : Nat} {s0 s1 : St} (hf : P.funcs[f]? = some fn) (hb : fn.body = some c) (hn : fn.ntmps = n) (hres : ∀ (tmps : Array Value) (w : World), ∃ v, (results fn tmps).run P w = .ok v w)
    (hT : (s0.own.all fun c => c.2.all fun l => match l with | .t i => decide (i < s0.tmps.length) | _ => true) = true)
    (h : VK P G [.code c] .normal ⟨s0.tmps ++ List.replicate (n - s0.tmps.length) (.tup []), s0.H, s0.own⟩ fun e s => (e = .normal ∨ e = .ret) ∧ Weak (retU s) s1) : CH P G f s0 s1 := by
  intro base R μ args w hr
  refine calls_of_wp hf hb ?_
  have hsz : args.size = s0.tmps.length := hr.size
  have hrel : Rel P G base R μ ⟨s0.tmps ++ List.replicate (n - s0.tmps.length) (.tup []), s0.H, s0.own⟩ { tmps := args ++ Array.replicate (fn.ntmps - args.size) undef, defers := [] } w := by
    refine ⟨rfl, by simp [hsz, hn], fun i v d hiv hid => ?_, hr.objs, hr.inj, hr.locs, ?_, hr.glob, hr.rset, hr.base, hr.pass⟩
    · simp only at hid
      by_cases hi : i < s0.tmps.length
      · rw [List.getElem?_append_left hi] at hid
        rw [Array.getElem?_append_left (by omega)] at hiv
        exact hr.tmps i v d hiv hid
      · rw [List.getElem?_append_right (by omega), List.getElem?_replicate] at hid
        split at hid <;> simp at hid
        subst hid
        rw [Array.getElem?_append_right (by omega), Array.getElem?_replicate] at hiv
        split at hiv <;> simp at hiv
        subst hiv
        exact .tup #[] [] rfl (by simp)
    · obtain ⟨vs, hl, h1, hap⟩ := hr.own
      refine ⟨vs, hl, fun i c v hc hv => ?_, hap⟩
      have ho := h1 i c v hc hv
      refine ⟨fun l hl u hu => ?_, ho.own, ho.keys⟩
      cases l with
      | t j =>
        have hj := List.all_eq_true.1 (List.all_eq_true.1 hT c (List.mem_of_getElem? hc)) _ hl
        simp only [decide_eq_true_eq] at hj
        simp only [locVal] at hu
        rw [Array.getElem?_append_left (by omega)] at hu
        exact ho.locs _ hl u hu
      | c k off => exact ho.locs _ hl u hu
  refine wp_mono (VW_ok c _ _ (VW_of_VK h) base R μ _ w hrel) fun e a' w' ⟨s, R', μ', ⟨he, hend⟩, hr', hs⟩ => ?_
  obtain ⟨v, hv⟩ := hres a'.tmps w'
  have hpost : a'.defers = [] ∧ ∃ v, (results fn a'.tmps).run P w' = .ok v w' ∧ ∃ v' R' μ', Ending.returned v = .returned v' ∧ Rel P G base R' μ' s1 { tmps := #[v'], defers := [] } w' ∧ Step base R w R' w' :=
    ⟨hr'.defers, v, hv, v, R', μ', rfl, (hr'.retU v).weak hend, hs⟩
  rcases he with rfl | rfl
  · exact hpost
  · exact hpost
/-- The one object is written anew; the slice in its second cell is as it was. -/
theorem Rel.bldSet {t : List DV} {k : Nat} {o o' : AObj} {e : TypeId} (hr : Rel P G base R μ ⟨t, [(k, o)], [(e, [.c k 1])]⟩ a w) (hos : w'.os = w.os ∧ w'.tape = w.tape ∧ w'.output = w.output ∧ w'.heap.size = w.heap.size) (hoth : ∀ j, j ≠ μ k → w'.heap[j]? = w.heap[j]?)
    (hob : ObjRel R μ w' (μ k) o') (hc : w'.cell? ⟨μ k, 1, none⟩ = w.cell? ⟨μ k, 1, none⟩) {v : Value} {r : DV} (ht : TV R μ w' v r) :
    Rel P G base R μ ⟨[r], [(k, o')], [(e, [.c k 1])]⟩ { tmps := #[v], defers := [] } w' ∧ Step base R w R w' := by
  have h0 : getKey k [(k, o)] = some o := by simp [getKey]
  have hown : ∃ vs, Owns P base R μ { (⟨t, [(k, o)], [(e, [.c k 1])]⟩ : St) with H := setKey k o' [(k, o)], own := [(e, [.c k 1])] } a w' vs := by
    obtain ⟨vs, hvs⟩ := hr.own
    refine ⟨vs, hvs.len, fun i c v hc' hv => ?_, hvs.apart⟩
    have ho := hvs.one i c v hc' hv
    refine ⟨fun l hl u hu => ?_, ho.own.keep1 (fun g hg => hoth g fun he => ho.keys k _ h0 (by rw [hg, he])) (fun _ _ _ h => h), fun k' o1 hk => ?_⟩
    · refine ho.locs l hl u ?_
      have hc2 : c = (e, [.c k 1]) := by
        cases i with
        | zero => simpa using hc'.symm
        | succ i => simp at hc'
      subst hc2
      simp at hl
      subst hl
      simp only [locVal] at hu ⊢
      rw [← hc]
      exact hu
    · rw [getKey_setKey] at hk
      split at hk
      · rename_i he; subst he; exact ho.keys k _ h0
      · exact ho.keys k' o1 hk
  obtain ⟨h1, h2⟩ := hr.setObj (k := k) (o' := o') h0 hos.1 hos.2.1 hos.2.2.1 hos.2.2.2 hoth hob (own' := [(e, [.c k 1])]) hr.locs hown
  have hH : setKey k o' [(k, o)] = [(k, o')] := by simp [setKey, getKey, repKey]
  rw [hH] at h1
  exact ⟨h1.seen (fun c hc l hl => by simp at hc; subst hc; simp at hl; exact ⟨_, _, hl⟩) ht, h2⟩
theorem SureSl.of_cells {v : Value} {es : List (List D)} (h : V R w v (.sl es)) (hne : es ≠ []) : SureSl v := by
  obtain ⟨ao, cap, rfl, h2, _⟩ := h.sl_inv
  have : 0 < es.length := List.length_pos_iff.2 hne
  exact .inr ⟨_, _, _, rfl, by omega⟩
attribute [simp] retU locU
end
end Go.VM
namespace Go.Proofs.YtlglfkdjlbcpjaaGreatDoor
open Go Go.VM Go.RowKit
set_option maxRecDepth 100000
set_option maxHeartbeats 2000000
variable {G : GT}
/-- What the first cell of a builder holds. -/
def bc0 (u : Bool) (k : Nat) : DV := if u then .ptr k 0 else .nilp 70
abbrev bOwn (k : Nat) : TypeId × List VM.Loc := (5, [.c k 1])
theorem noT_b (k : Nat) : noT [bOwn k] := fun c hc l hl => by
  simp at hc; subst hc
  simp at hl
  exact ⟨_, _, hl⟩
theorem copyCheck_ch (u : Bool) (y : D) : CH Tryz.prog G 60 ⟨[.ptr 100000 0], [(100000, .cells [bc0 u 100000, .d y])], [bOwn 100000]⟩
    ⟨[.tup []], [(100000, .cells [.ptr 100000 0, .d y])], [bOwn 100000]⟩ := by
  intro base R μ args w hr
  obtain ⟨v, rfl⟩ : ∃ v, args = #[v] := by
    have h1 : args.size = 1 := hr.size
    match args, h1 with
    | ⟨[v]⟩, _ => exact ⟨v, rfl⟩
  have hv : v = .pointer (some ⟨μ 100000, 0, none⟩) := (hr.tmps 0 v _ rfl rfl).ptr_inv
  subst hv
  obtain ⟨hb, hnR, vs, T, hh, hsz, hcs, hnil⟩ := hr.objs 100000 _ rfl
  obtain ⟨x0, x1, rfl⟩ : ∃ x0 x1, vs = #[x0, x1] := by
    match vs, hsz with
    | ⟨[p, q]⟩, _ => exact ⟨p, q, rfl⟩
  have hp := hcs 0 _ rfl
  have hq := hcs 1 _ rfl
  simp at hp hq
  have c0 : w.cell? ⟨μ 100000, 0, none⟩ = some x0 := by rw [cell_of_row w _ _ _ T (0, 0) hh]; rfl
  cases u with
  | true =>
    have hx := (hp.2).ptr_inv
    subst hx
    refine (copyCheck_used _ w c0).mono ?_
    rintro e w' ⟨rfl, rfl⟩
    exact ⟨_, R, μ, rfl, hr.seen (noT_b _) (.tup #[] [] rfl (by simp)), .refl _ _ _⟩
  | false =>
    have hT : T = 70 := hnil _ (by simp [bc0])
    subst hT
    have hx : x0 = .pointer none := by
      have h2 := hp.2
      simp only [bc0, Bool.false_eq_true, if_false] at h2
      cases h2
      rfl
    subst hx
    have hfz : w.frozen? ⟨μ 100000, 0, none⟩ = false := by simp [World.frozen?, hh]
    refine (copyCheck_fresh _ w c0 (by simp [World.shape?, hh]) hfz).mono ?_
    rintro e w' ⟨rfl, rfl⟩
    generalize hw' : w.setCell ⟨μ 100000, 0, none⟩ (.pointer (some ⟨μ 100000, 0, none⟩)) = w'
    have hheap : w'.heap[μ 100000]? = some (.cells #[.pointer (some ⟨μ 100000, 0, none⟩), x1] 70 (0, 0)) := by
      rw [← hw']
      simp [World.setCell, Array.getElem?_modify, hh]
    have hoth : ∀ j, j ≠ μ 100000 → w'.heap[j]? = w.heap[j]? := fun j hj => by
      rw [← hw']
      simp [World.setCell, Array.getElem?_modify, Ne.symm hj]
    have hos : w'.os = w.os ∧ w'.tape = w.tape ∧ w'.output = w.output ∧ w'.heap.size = w.heap.size := by
      rw [← hw']
      exact ⟨rfl, rfl, rfl, by simp [World.setCell]⟩
    have hstep := hr.stepObj (k := 100000) rfl hos.1 hos.2.1 hos.2.2.1 hos.2.2.2 hoth
    have hob : ObjRel R μ w' (μ 100000) (.cells [.ptr 100000 0, .d y]) := by
      refine ⟨_, _, hheap, rfl, fun i d hi => ?_, NilsOk.of_noNil rfl⟩
      match i, hi with
      | 0, hi => cases hi; exact ⟨rfl, .ptr _ _⟩
      | 1, hi => cases hi; exact ⟨hq.1, hq.2.of_step hstep⟩
      | i + 2, hi => simp at hi
    have hown : ∃ vs, Owns Tryz.prog base R μ { (⟨[.ptr 100000 0], [(100000, .cells [bc0 false 100000, .d y])], [bOwn 100000]⟩ : St) with H := setKey 100000 (.cells [.ptr 100000 0, .d y]) [(100000, .cells [bc0 false 100000, .d y])], own := [bOwn 100000] } { tmps := #[.pointer (some ⟨μ 100000, 0, none⟩)], defers := [] } w' vs := by
      obtain ⟨vs, hvs⟩ := hr.own
      refine ⟨vs, hvs.len, fun i c v hc hv => ?_, hvs.apart⟩
      have ho := hvs.one i c v hc hv
      refine ⟨fun l hl u hu => ?_, ho.own.keep1 (fun g hg => hoth g fun he => ho.keys 100000 _ rfl (by rw [hg, he])) (fun _ _ _ h => h), fun k o hk => ?_⟩
      · refine ho.locs l hl u ?_
        have hc' : c = bOwn 100000 := by
          cases i with
          | zero => simpa using hc.symm
          | succ i => simp at hc
        subst hc'
        simp at hl
        subst hl
        simp only [locVal] at hu ⊢
        rw [cell_of_row w' _ _ _ _ (0, 0) hheap] at hu
        rw [cell_of_row w _ _ _ _ (0, 0) hh]
        exact hu
      · rw [getKey_setKey] at hk
        split at hk
        · rename_i he; subst he; exact ho.keys 100000 _ rfl
        · exact ho.keys k o hk
    obtain ⟨h1, h2⟩ := hr.setObj (k := 100000) (o' := .cells [.ptr 100000 0, .d y]) rfl hos.1 hos.2.1 hos.2.2.1 hos.2.2.2 hoth hob (own' := [bOwn 100000]) hr.locs hown
    exact ⟨_, R, μ, rfl, h1.seen (noT_b _) (.tup #[] [] rfl (by simp)), h2⟩
theorem ent_copyCheck : VM.Enters Tryz.prog 60 := VM.Enters.mk Tryz.func60 rfl
def byteE (l : List UInt8) : List (List D) := l.map fun b => [D.int .u8 b.toNat]
@[simp] theorem byteE_len (l : List UInt8) : (byteE l).length = l.length := by simp [byteE]
theorem byteE_app (a b : List UInt8) : byteE (a ++ b) = byteE a ++ byteE b := by simp [byteE]
@[simp] theorem byteE_all (l : List UInt8) : ((byteE l).all fun c => c.length == 1) = true := by simp [byteE]
theorem cell_c0 (u : Bool) (k : Nat) : (bc0 u k).cell = true := by cases u <;> rfl
theorem WriteString_cells (u : Bool) (l bs : List UInt8) (hlen : l.length + bs.length ≤ 70368744177664) :
    CH Tryz.prog G 35 ⟨[.ptr 100000 0, .d (.str bs)], [(100000, .cells [bc0 u 100000, .d (.sl (byteE l))])], [bOwn 100000]⟩ ⟨[.undef], [(100000, .cells [.ptr 100000 0, .d (.sl (byteE (l ++ bs)))])], [bOwn 100000]⟩ := by
  have hb : (bs.map fun b => [D.int .u8 b.toNat]) = byteE bs := rfl
  refine CH.of_VKu Tryz.func35 rfl Tryz.ntmps35 (fun tmps w => ⟨_, results_tmp2 rfl tmps _ w⟩) (by simp) ?_
  simp
  refine callHK.mk ent_copyCheck (copyCheck_ch u (.sl (byteE l))) [(100000, 100000)] (by cases u <;> simp [bc0]) (by simp) (by cases u <;> simp [bc0]) (by simp; rfl) (by simp) ?_
  have hsz : (l.length + bs.length) * 2 ≤ 140737488355328 := by omega
  simp [hb, byteE_app, hsz]
theorem bldCells {R : Nat → Nat → Prop} {μ : Nat → Nat} {w : World} {k : Nat} {u : Bool} {es : List (List D)} (h : ObjRel R μ w (μ k) (.bld 70 u es)) : ObjRel R μ w (μ k) (.cells [bc0 u k, .d (.sl es)]) := by
  obtain ⟨v0, v1, T', h1, h2, h3, h4, h5⟩ := h
  refine ⟨_, _, h1, rfl, fun i d hi => ?_, fun T hm => ?_⟩
  · match i, hi with
    | 0, hi =>
      cases hi
      refine ⟨cell_c0 u k, ?_⟩
      subst h3
      cases u with
      | true => exact .ptr k 0
      | false => exact .nilp _
    | 1, hi => cases hi; exact ⟨rfl, .d _ _ h4⟩
    | i + 2, hi => simp at hi
  · cases u with
    | true => simp [bc0] at hm
    | false =>
      simp [bc0] at hm
      rw [hm]; exact (h2 rfl).1
theorem cellsBld {R : Nat → Nat → Prop} {μ : Nat → Nat} {w : World} {k : Nat} {T : TypeId} {es : List (List D)} (hne : es ≠ []) (h : ObjRel R μ w (μ k) (.cells [.ptr k 0, .d (.sl es)])) : ObjRel R μ w (μ k) (.bld T true es) := by
  obtain ⟨vs, T', h1, h2, h3, _⟩ := h
  obtain ⟨x0, x1, rfl⟩ : ∃ x0 x1, vs = #[x0, x1] := by
    match vs, h2 with
    | ⟨[p, q]⟩, _ => exact ⟨p, q, rfl⟩
  have hp := (h3 0 _ rfl).2
  have hq := (h3 1 _ rfl).2
  simp at hp hq
  exact ⟨x0, x1, T', h1, fun h => (by cases h), hp.ptr_inv, hq.dinv, .of_cells hq.dinv hne⟩
theorem byteE_nil {l : List UInt8} (h : l ≠ []) : byteE l ≠ [] := by
  intro h2
  have := congrArg List.length h2
  simp at this
  exact h this
/-- WriteString, at any builder. -/
theorem WriteString_ch (u : Bool) (l bs : List UInt8) (hlen : l.length + bs.length ≤ 70368744177664) :
    CH Tryz.prog G 35 ⟨[.ptr 100000 0, .d (.str bs)], [(100000, .bld 70 u (byteE l))], [bOwn 100000]⟩ ⟨[.undef], [(100000, .bld 70 true (byteE (l ++ bs)))], [bOwn 100000]⟩ := by
  intro base R μ args w hr
  by_cases hne : l ++ bs = []
  · obtain ⟨rfl, rfl⟩ := List.append_eq_nil_iff.1 hne
    obtain ⟨v, s, rfl⟩ : ∃ v s, args = #[v, s] := by
      have h1 : args.size = 2 := hr.size
      match args, h1 with
      | ⟨[v, s]⟩, _ => exact ⟨v, s, rfl⟩
    have hv : v = .pointer (some ⟨μ 100000, 0, none⟩) := (hr.tmps 0 v _ rfl rfl).ptr_inv
    have hs : s = .string ⟨#[]⟩ := by
      have := (hr.tmps 1 s _ rfl rfl).dinv
      cases this
      rfl
    subst hv hs
    obtain ⟨hb, hnR, v0, v1, T', h1, h2, h3, h4, h5⟩ := hr.objs 100000 _ rfl
    obtain ⟨ao, cap, hv1, _, _⟩ := h4.sl_inv
    have c0 : w.cell? ⟨μ 100000, 0, none⟩ = some v0 := by rw [cell_of_row w _ _ _ T' (0, 0) h1]; rfl
    have c1 : w.cell? ⟨μ 100000, 1, none⟩ = some v1 := by rw [cell_of_row w _ _ _ T' (0, 0) h1]; rfl
    obtain ⟨w1, hcc, hheap, hoth, hos⟩ : ∃ w1 : World, Calls Tryz.prog 60 #[.pointer (some ⟨μ 100000, 0, none⟩)] w (fun e w' => e = .returned (.tuple #[]) ∧ w' = w1) ∧
        w1.heap[μ 100000]? = some (.cells #[.pointer (some ⟨μ 100000, 0, none⟩), v1] T' (0, 0)) ∧ (∀ j, j ≠ μ 100000 → w1.heap[j]? = w.heap[j]?) ∧ (w1.os = w.os ∧ w1.tape = w.tape ∧ w1.output = w.output ∧ w1.heap.size = w.heap.size) := by
      cases u with
      | true =>
        simp only [if_true] at h3
        subst h3
        exact ⟨w, copyCheck_used _ w c0, h1, fun _ _ => rfl, rfl, rfl, rfl, rfl⟩
      | false =>
        simp only [Bool.false_eq_true, if_false] at h3
        have hT := (h2 rfl).1
        subst h3 hT
        refine ⟨_, copyCheck_fresh _ w c0 (by simp [World.shape?, h1]) (by simp [World.frozen?, h1]), ?_, fun j hj => ?_, rfl, rfl, rfl, by simp [World.setCell]⟩
        · simp [World.setCell, Array.getElem?_modify, h1]
        · simp [World.setCell, Array.getElem?_modify, Ne.symm hj]
    have d1 : w1.cell? ⟨μ 100000, 1, none⟩ = some v1 := by rw [cell_of_row w1 _ _ _ T' (0, 0) hheap]; rfl
    refine (WriteString_zero (μ 100000) ao cap w w1 hcc v1 hv1 d1 (by simp [World.frozen?, hheap])).mono ?_
    rintro e w' ⟨rfl, rfl⟩
    generalize hw' : w1.setCell ⟨μ 100000, 1, none⟩ v1 = w'
    have hheap' : w'.heap[μ 100000]? = some (.cells #[.pointer (some ⟨μ 100000, 0, none⟩), v1] T' (0, 0)) := by
      rw [← hw']
      simp [World.setCell, Array.getElem?_modify, hheap]
    have hoth' : ∀ j, j ≠ μ 100000 → w'.heap[j]? = w.heap[j]? := fun j hj => by
      rw [← hoth j hj, ← hw']
      simp [World.setCell, Array.getElem?_modify, Ne.symm hj]
    have hos' : w'.os = w.os ∧ w'.tape = w.tape ∧ w'.output = w.output ∧ w'.heap.size = w.heap.size := by
      rw [← hw']
      exact ⟨hos.1, hos.2.1, hos.2.2.1, by rw [← hos.2.2.2]; simp [World.setCell]⟩
    have e1 : w'.cell? ⟨μ 100000, 1, none⟩ = some v1 := by rw [cell_of_row w' _ _ _ T' (0, 0) hheap']; rfl
    have hstep := hr.stepObj (k := 100000) rfl hos'.1 hos'.2.1 hos'.2.2.1 hos'.2.2.2 hoth'
    obtain ⟨q1, q2⟩ := hr.bldSet (o' := .bld 70 true (byteE [])) hos' hoth' ⟨_, v1, T', hheap', fun h => (by cases h), rfl, h4.of_step hstep, h5⟩ (by rw [e1, c1]) (.undef (.tuple #[.int .i64 0, .nilIface]))
    exact ⟨_, R, μ, rfl, q1, q2⟩
  · refine (WriteString_cells u l bs hlen base R μ args w (hr.obj1 bldCells)).mono ?_
    rintro e w' ⟨v, R', μ', rfl, h1, h2⟩
    exact ⟨v, R', μ', rfl, h1.obj1 (cellsBld (byteE_nil hne)), h2⟩
theorem u8cells : Tryz.prog.cellsOf 5 = 1 := by kernel_rfl
theorem String_ch (u : Bool) (l : List UInt8) : CH Tryz.prog G 37 ⟨[.ptr 100000 0], [(100000, .bld 70 u (byteE l))], [bOwn 100000]⟩ ⟨[.d (.str l)], [(100000, .bld 70 u (byteE l))], []⟩ := by
  intro base R μ args w hr
  obtain ⟨v, rfl⟩ : ∃ v, args = #[v] := by
    have h1 : args.size = 1 := hr.size
    match args, h1 with
    | ⟨[v]⟩, _ => exact ⟨v, rfl⟩
  have hv : v = .pointer (some ⟨μ 100000, 0, none⟩) := (hr.tmps 0 v _ rfl rfl).ptr_inv
  subst hv
  obtain ⟨hb, hnR, v0, v1, T', h1, h2, h3, h4, h5⟩ := hr.objs 100000 _ rfl
  obtain ⟨ao, cap, hv1, hle, hrun⟩ := h4.sl_inv
  have c1 : w.cell? ⟨μ 100000, 1, none⟩ = some v1 := by rw [cell_of_row w _ _ _ T' (0, 0) h1]; rfl
  obtain ⟨hr0, x, vs, hx, hown, hkeys, hvs, hap⟩ := hr.takeOwn (l := .c 100000 1) (e := 5) (own' := []) (by simp [Go.VM.takeOwn])
  have hxv : v1 = x := hx v1 c1
  subst hxv
  have hn0 : noT ([] : List (TypeId × List VM.Loc)) := fun c hc => by cases hc
  by_cases hl : l = []
  · subst hl
    rw [hv1] at c1
    have hx2 : ao = none ∨ cap ≠ 0 := by
      rcases h5 with h5 | ⟨ao', n', cap', h5, h6⟩
      · rw [hv1] at h5; cases h5; exact .inl rfl
      · rw [hv1] at h5; cases h5; exact .inr h6
    refine (String_none _ ao cap w c1 hx2).mono ?_
    rintro e w' ⟨rfl, rfl⟩
    obtain ⟨q1, q2⟩ := hr0.drew
    exact ⟨_, R, μ, rfl, q1.seen hn0 (.d _ _ (.str [])), q2⟩
  · have hbe : byteE l ≠ [] := byteE_nil hl
    obtain ⟨g, o, size, rfl, hs0, hsz, hcell⟩ := hrun hbe
    have hlen0 : 0 < l.length := List.length_pos_iff.2 hl
    have hs1 : size = 1 := by
      cases l with
      | nil => exact absurd rfl hl
      | cons b r => have := hsz [.int .u8 b.toNat] (by simp [byteE]); simpa using this.symm
    subst hs1
    rw [byteE_len] at hv1 hle
    rcases hown with ⟨ao', h0⟩ | ⟨g', n', cap', cur, h0, hbg, hg, hnc, hcm, hcs, hnR'⟩
    · rw [hv1, Value.slice.injEq] at h0; omega
    · rw [hv1, Value.slice.injEq] at h0
      obtain ⟨h01, rfl, rfl⟩ := h0
      cases h01
      have hsp : spareBlk v1 = some g := by rw [hv1]; simp [spareBlk]; omega
      rw [hv1] at c1
      refine (String_row (μ 100000) g l.length cap cur l w c1 rfl hl hle hcm hg (by rw [hcs, u8cells]; omega) fun j y hj => ?_).mono ?_
      · have he : (byteE l)[j]? = some [.int .u8 y.toNat] := by simp [byteE, hj]
        obtain ⟨_, _, v, k3, k4⟩ := hcell j _ he 0 _ rfl
        cases k4
        simpa using k3
      · rintro e w' ⟨rfl, rfl⟩
        have hvs0 : vs = [] := List.eq_nil_of_length_eq_zero (by rw [hvs.len]; rfl)
        obtain ⟨q1, q2⟩ := hr0.froze g l.length hbg (fun k o hk he => hkeys k o hk (by rw [hsp, he])) ⟨vs, hvs, fun v hv => by rw [hvs0] at hv; cases hv⟩
        exact ⟨_, R, μ, rfl, q1.seen hn0 (.d _ _ (.str l)), q2⟩
end Go.Proofs.YtlglfkdjlbcpjaaGreatDoor
end

section
set_option linter.unusedVariables false
set_option linter.unusedSimpArgs false
set_option linter.unusedSectionVars false
namespace Go.Proofs.YtlglfkdjlbcpjaaGreatDoor
open Go Go.VM
set_option maxRecDepth 100000
set_option maxHeartbeats 8000000
variable {G : GT}
/-- The text of tokens, from a line on, behind what is written. -/
def textW : List Tok → Int → Bool → Bool → List UInt8 → List UInt8 × Int
  | [], _, _, long, buf => if long then ([], 7) else (buf, 0)
  | t :: r, ln, f, long, buf =>
    if rightB t r.isEmpty = false then ([], 6) else if t.line < ln then ([], 9)
    else if long = true ∨ 40000 < t.line - ln then textW r t.line false true buf
    else textW r t.line false (decide (40000 < (buf ++ pieceT t ln f).length)) (buf ++ pieceT t ln f)
theorem ent_WriteString : VM.Enters Tryz.prog 35 := VM.Enters.mk Tryz.func35 rfl
theorem ent_String : VM.Enters Tryz.prog 37 := VM.Enters.mk Tryz.func37 rfl
theorem rep10 (n : Nat) : Lib.repeatL [10] n = List.replicate n 10 := by
  have := Lib.repeatL_replicate 10 1 n
  simpa using this
theorem toks_getE {l : List Tok} {i : Nat} (h : i < (toks l).length) : (toks l)[i] = [.int .i64 (l[i]'(by simpa using h)).kind, .str (l[i]'(by simpa using h)).text, .int .i64 (l[i]'(by simpa using h)).n, .int .i64 (l[i]'(by simpa using h)).line] := by simp [toks, tokE]
theorem toks_get {l : List Tok} {i : Nat} (h : i < l.length) : (toks l)[i]? = some [.int .i64 l[i].kind, .str l[i].text, .int .i64 l[i].n, .int .i64 l[i].line] := by simp [toks, tokE, h]
end Go.Proofs.YtlglfkdjlbcpjaaGreatDoor
end
