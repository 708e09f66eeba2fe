/- Template: slices.DeleteFunc over variables, at the level of worlds. No condition. -/
import Derived.Lib.SliceRun
import Derived.Lib.Walk
import Derived.Lib.SmallJoins
import Derived.Laws.CopyRow
import Derived.WalkKit
import Derived.Deep.LoopGhost
import Derived.Test.YtmjpdmkgmlhfaaaDoorProg
set_option linter.unusedVariables false
set_option linter.unusedSimpArgs false
set_option linter.unusedSectionVars false
namespace Go.Proofs.YtmjpdmkgmlhfaaaDoor
open Go Go.RowKit Go.Lib
set_option maxRecDepth 100000
set_option maxHeartbeats 4000000
set_option linter.unusedVariables false
abbrev fDel : FuncId := 81
abbrev fIdx : FuncId := 87
abbrev fCl : FuncId := 83
def strV (s : List UInt8) : Value := .string ⟨s.toArray⟩
abbrev Vp := List UInt8 × List UInt8
/-- The row's cells are those of the variables. -/
def RowV (g cap : Nat) (d : List Vp) (w : World) : Prop := ∃ cur, w.heap[g]? = some (.cells cur 76 (0, 0)) ∧ cur.size = cap * 2 ∧ d.length ≤ cap ∧ ∀ j (h : j < d.length), cur[j * 2]? = some (strV d[j].1) ∧ cur[j * 2 + 1]? = some (strV d[j].2)
/-- What is kept so far: the row is cut at i, read up to j. -/
structure KeepI (p : Vp → Bool) (l : List Vp) (i j : Nat) (d : List Vp) : Prop where
  len : d.length = l.length
  lt : i < j
  le : j ≤ l.length
  low : d.take i = (l.take j).filter p
  high : d.drop j = l.drop j
theorem KeepI.keep {p : Vp → Bool} {l d : List Vp} {i j : Nat} (h : KeepI p l i j d) (hj : j < l.length) (hp : p l[j] = true) : KeepI p l (i + 1) (j + 1) (d.set i l[j]) := by
  obtain ⟨h1, h2, h3, h4, h5⟩ := h
  refine ⟨by simp [h1], by omega, hj, ?_, ?_⟩
  · rw [List.take_succ_eq_append_getElem hj, List.filter_append, ← h4, List.take_succ_eq_append_getElem (by simp; omega), List.take_set_of_le (by omega)]
    simp [hp]
  · rw [List.drop_set_of_lt (by omega), ← List.drop_drop, h5, List.drop_drop]
theorem KeepI.skip {p : Vp → Bool} {l d : List Vp} {i j : Nat} (h : KeepI p l i j d) (hj : j < l.length) (hp : p l[j] = false) : KeepI p l i (j + 1) d := by
  obtain ⟨h1, h2, h3, h4, h5⟩ := h
  refine ⟨h1, by omega, hj, ?_, ?_⟩
  · rw [List.take_succ_eq_append_getElem hj, List.filter_append, ← h4]
    simp [hp]
  · rw [← List.drop_drop, h5, List.drop_drop]
theorem KeepI.at {p : Vp → Bool} {l d : List Vp} {i j : Nat} (h : KeepI p l i j d) (hj : j < l.length) : d[j]'(by rw [h.len]; exact hj) = l[j] := by
  have := congrArg (·[0]?) h.high
  simp [List.getElem?_drop, hj, h.len] at this
  exact this
theorem KeepI.start {p : Vp → Bool} {l : List Vp} {i : Nat} (hi : i < l.length) (ha : ∀ j (h : j < l.length), j < i → p l[j] = true) (hp : p l[i] = false) : KeepI p l i (i + 1) l := by
  refine ⟨rfl, by omega, hi, ?_, rfl⟩
  rw [List.take_succ_eq_append_getElem hi, List.filter_append, List.filter_eq_self.2 fun x hx => ?_]
  · simp [hp]
  · obtain ⟨j, hj⟩ := List.getElem?_of_mem hx
    have hji : j < i := by
      have := (List.getElem?_eq_some_iff.1 hj).1
      simp at this
      omega
    rw [List.getElem?_take_of_lt hji, List.getElem?_eq_getElem (by omega)] at hj
    cases hj
    exact ha j (by omega) hji
theorem KeepI.done {p : Vp → Bool} {l d : List Vp} {i : Nat} (h : KeepI p l i l.length d) : d.take i = l.filter p := by
  rw [h.low, List.take_length]
/-- No element is struck. -/
theorem delF_none {Q : World → Prop} (ao : Option Addr) (n cap : Nat) (lb : Array Value) (w : World) (hIF : Calls Tryd.prog fIdx #[.slice ao n cap, .func (.func fCl) #[] lb] w fun e w' => e = .returned (.int .i64 (-1)) ∧ Q w') :
    Calls Tryd.prog fDel #[.slice ao n cap, .func (.func fCl) #[] lb] w fun e w' => e = .returned (.slice ao n cap) ∧ Q w' := by
  go_enter Tryd.func81, Tryd.ntmps81
  go_wp2_with (go_at_call 87; refine hIF.mono ?_)
  rintro e w' ⟨rfl, hq⟩
  go_wp2
  go_ret
  exact ⟨rfl, hq⟩
/-- Only the row g and what is new may have changed. -/
structure KeepX (g : Nat) (w w' : World) : Prop where
  os : w'.os = w.os
  tape : w'.tape = w.tape
  output : w'.output = w.output
  size : w.heap.size ≤ w'.heap.size
  block : ∀ k, k < w.heap.size → k ≠ g → w'.heap[k]? = w.heap[k]?
theorem KeepX.refl (g : Nat) (w : World) : KeepX g w w := ⟨rfl, rfl, rfl, Nat.le_refl _, fun _ _ _ => rfl⟩
theorem KeepX.trans {g : Nat} {a b c : World} (h : KeepX g a b) (k : KeepX g b c) : KeepX g a c :=
  ⟨k.os.trans h.os, k.tape.trans h.tape, k.output.trans h.output, Nat.le_trans h.size k.size, fun i hi hg => (k.block i (Nat.lt_of_lt_of_le hi h.size) hg).trans (h.block i hi hg)⟩
theorem KeepX.of_below {g : Nat} {w w' : World} (h : Below w.heap.size w w') : KeepX g w w' := ⟨h.os, h.tape, h.output, h.size, fun k hk _ => h.block k hk⟩
def fullT (x : Vp) (b : Nat) : Value := .func (.func fCl) #[] #[.pointer (some ⟨b, 0, none⟩)]
theorem added1_z (x y : Vp) (b : Nat) (w : World) (hc : w.cell? ⟨b, 0, none⟩ = some (strV x.1)) (hb : b < w.heap.size) :
    Calls Tryd.prog fCl #[.agg #[strV y.1, strV y.2], .pointer (some ⟨b, 0, none⟩)] w fun e w' => e = .returned (.bool (decide (y.1 = x.1))) ∧ Below w.heap.size w w' := by
  unfold strV at *
  go_enter Tryd.func83, Tryd.ntmps83
  go_wp2
  go_ret
  refine ⟨by show Ending.returned (Value.bool _) = _; congr 2; exact Bool.eq_iff_iff.2 (by simp), ?_⟩
  exact (Below.refl _ _).alloc (Nat.le_refl _) _
/-- The first variable of that name. -/
def fst1 (nm : List UInt8) : List Vp → Nat → Int
  | [], _ => -1
  | y :: r, i => if y.1 = nm then (i : Int) else fst1 nm r (i + 1)
theorem fst1_drop {nm : List UInt8} {l : List Vp} {i : Nat} (h : i < l.length) : fst1 nm (l.drop i) i = if l[i].1 = nm then (i : Int) else fst1 nm (l.drop (i + 1)) (i + 1) := by
  rw [List.drop_eq_getElem_cons h]
  rfl
theorem fst1_spec (nm : List UInt8) : ∀ (l : List Vp) (i : Nat), (fst1 nm l i = -1 ∧ ∀ y ∈ l, y.1 ≠ nm) ∨ ∃ k, ∃ h : k < l.length, fst1 nm l i = ((i + k : Nat) : Int) ∧ l[k].1 = nm ∧ ∀ j (h : j < l.length), j < k → l[j].1 ≠ nm
  | [], i => .inl ⟨rfl, fun y hy => by cases hy⟩
  | y :: r, i => by
    by_cases e : y.1 = nm
    · exact .inr ⟨0, by simp, by simp [fst1, e], e, fun j h hj => by omega⟩
    · rcases fst1_spec nm r (i + 1) with ⟨h1, h2⟩ | ⟨k, hk, h1, h2, h3⟩
      · refine .inl ⟨by simp [fst1, e, h1], fun z hz => ?_⟩
        rcases List.mem_cons.1 hz with rfl | hz
        · exact e
        · exact h2 z hz
      · refine .inr ⟨k + 1, by simpa using hk, by simp only [fst1, if_neg e, h1]; omega, by simpa using h2, fun j h hj => ?_⟩
        cases j with
        | zero => exact e
        | succ j => simpa using h3 j (by simpa using h) (by omega)
theorem idxF_z0 (ao : Option Addr) (cap : Nat) (cl : Value) (w : World) : Calls Tryd.prog fIdx #[.slice ao 0 cap, cl] w fun e w' => e = .returned (.int .i64 (-1)) ∧ Below w.heap.size w w' := by
  go_enter Tryd.func87, Tryd.ntmps87
  go_wp2
  go_loopg [5, 8] 0 (fun gg _ s8 wr => s8 = .int .i64 0 ∧ wr = w)
  case atStart => exact ⟨rfl, rfl⟩
  case round =>
    obtain ⟨rfl, rfl⟩ := hrel
    go_wp2
    go_ret
    exact ⟨rfl, Below.refl _ _⟩
theorem idxF_z (g cap b : Nat) (l : List Vp) (x : Vp) (w0 : World) (hrow : RowV g cap l w0) (hb : b < w0.heap.size) (hc : w0.cell? ⟨b, 0, none⟩ = some (strV x.1)) (hll : l.length ≤ 1000000) :
    Calls Tryd.prog fIdx #[.slice (some ⟨g, 0, none⟩) l.length cap, fullT x b] w0 fun e w' => e = .returned (.int .i64 (fst1 x.1 l 0)) ∧ Below w0.heap.size w0 w' := by
  unfold fullT at *
  have HR : Aside (RowV g cap l w0) := hrow
  have hgs : g < w0.heap.size := by
    obtain ⟨cur, q1, _⟩ := hrow
    exact (Array.getElem?_eq_some_iff.1 q1).1
  clear hrow
  go_enter Tryd.func87, Tryd.ntmps87
  go_wp2
  go_loopg [5, 8] l.length (fun gg _ s8 wr => ∃ j : Nat, s8 = .int .i64 j ∧ l.length - j ≤ gg ∧ j ≤ l.length ∧ Aside (Below w0.heap.size w0 wr ∧ fst1 x.1 (l.drop j) j = fst1 x.1 l 0))
  case atStart => exact ⟨0, rfl, by omega, by omega, ⟨Below.refl _ _, rfl⟩⟩
  case round =>
    obtain ⟨j, rfl, hgg, hjl, H⟩ := hrel
    by_cases hlt : j < l.length
    · have hltz : (j : Int) < (l.length : Int) := by omega
      obtain ⟨cj, cj1⟩ : wr.cell? ⟨g, j * 2, none⟩ = some (.string ⟨l[j].1.toArray⟩) ∧ wr.cell? ⟨g, j * 2 + 1, none⟩ = some (.string ⟨l[j].2.toArray⟩) := by
        obtain ⟨cur, q1, q2, q3, q4⟩ := HR.out
        have hw : wr.heap[g]? = some (.cells cur 76 (0, 0)) := by rw [H.out.1.block g hgs]; exact q1
        obtain ⟨z1, z2⟩ := q4 j hlt
        exact ⟨by simp [World.cell?, hw]; exact z1, by simp [World.cell?, hw]; exact z2⟩
      obtain ⟨bj, bj1⟩ : wr.cell? ⟨b, 0, none⟩ = some (strV x.1) ∧ b < wr.heap.size := by
        obtain ⟨q1, _⟩ := H.out
        exact ⟨by rw [World.cell?_of_block (q1.block b hb)]; exact hc, Nat.lt_of_lt_of_le hb q1.size⟩
      have hd : Aside _ := fst1_drop (nm := x.1) hlt
      cases hq : decide (l[j].1 = x.1) with
      | true =>
        go_wp2_with (go_at_call 83; refine (added1_z x l[j] b wr bj bj1).mono ?_; rw [hq]; rintro e w1 ⟨rfl, hB⟩)
        go_ret
        obtain ⟨k1, k2⟩ := H.out
        have hd := hd.out
        rw [if_pos (by simpa using hq), k2] at hd
        rw [hd]
        exact ⟨rfl, k1.trans ⟨hB.os, hB.tape, hB.output, hB.size, fun k hk => hB.block k (Nat.lt_of_lt_of_le hk k1.size)⟩⟩
      | false =>
        go_wp2_with (go_at_call 83; refine (added1_z x l[j] b wr bj bj1).mono ?_; rw [hq]; rintro e w1 ⟨rfl, hB⟩)
        go_roundg (l.length - (j + 1))
        case measure => omega
        case rel =>
          obtain ⟨k1, k2⟩ := H.out
          have hd := hd.out
          rw [if_neg (by simpa using hq), k2] at hd
          exact ⟨j + 1, by go_num, Nat.le_refl _, hlt, ⟨k1.trans ⟨hB.os, hB.tape, hB.output, hB.size, fun k hk => hB.block k (Nat.lt_of_lt_of_le hk k1.size)⟩, hd.symm⟩⟩
    · obtain rfl : j = l.length := by omega
      have hltz : ¬ (l.length : Int) < (l.length : Int) := by omega
      go_wp2
      go_ret
      obtain ⟨k1, k2⟩ := H.out
      rw [List.drop_length] at k2
      exact ⟨by rw [← k2]; rfl, k1⟩
theorem und_vars : Tryd.prog.underlying 39 = some (.slice 76) := by kernel_rfl
theorem zero_var : ∀ w, (zeroValue 76).run Tryd.prog w = .ok (.agg #[strV [], strV []]) w := fun w => by
  obtain ⟨i, hi, hz⟩ := Option.bind_eq_some_iff.1 (by kernel_rfl : (Tryd.prog.info? 76).bind (·.zero) = some (.agg #[strV [], strV []]))
  simp [zeroValue, typeInfo, hi, hz]
theorem zeroCells_var (n : Nat) : (Builtin.zeroCells #[strV [], strV []] n).toList = List.replicate (n * 2) (strV []) := by
  simp [Builtin.zeroCells]
  apply List.ext_getElem
  · simp
  · intro i h1 h2
    simp
    rcases Nat.mod_two_eq_zero_or_one i with h | h <;> simp [h]
theorem zeroCells_var' (n : Nat) : (Builtin.zeroCells #[.string ⟨#[]⟩, .string ⟨#[]⟩] n).toList = List.replicate (n * 2) (strV []) := zeroCells_var n
/-- The rest of the row is cleared. -/
theorem run_clear_var (w : World) (g i n cap : Nat) (d : List Vp) (hi : i < n) (h : RowV g cap d w) (hd : d.length = n) : ∃ w1, (∀ ty, (Builtin.clear_ #[39] ty #[.slice (some ⟨g, i * 2, none⟩) (n - i) (cap - i)]).run Tryd.prog w = .ok (.tuple #[]) w1) ∧ KeepX g w w1 ∧ RowV g cap (d.take i) w1 := by
  obtain ⟨cur, q1, q2, q3, q4⟩ := h
  have hl : i * 2 + 0 + (List.replicate ((n - i) * 2) (strV [])).length ≤ cur.size := by simp; omega
  have hst := run_storeCells_at (P := Tryd.prog) g (i * 2) 76 (List.replicate ((n - i) * 2) (strV [])) 0 cur w q1 hl (fun v hv => by rw [List.eq_of_mem_replicate hv]; rfl)
  obtain ⟨m, hm⟩ : ∃ m, n - i = m + 1 := ⟨n - i - 1, by omega⟩
  refine ⟨w.setRow g (cur.toList.take (i * 2 + 0) ++ List.replicate ((n - i) * 2) (strV []) ++ cur.toList.drop (i * 2 + 0 + (List.replicate ((n - i) * 2) (strV [])).length)).toArray, fun ty => ?_, ?_, ?_⟩
  rotate_left
  · exact ⟨rfl, rfl, rfl, by simp, fun k _ hk => setRow_other w g k _ hk⟩
  · refine ⟨_, setRow_heap w g cur _ _ _ q1, ?_, by simp; omega, fun j hj => ?_⟩
    · simp at hl ⊢
      omega
    · rw [List.length_take] at hj
      obtain ⟨z1, z2⟩ := q4 j (by omega)
      have hjs : j * 2 + 1 < cur.size := by omega
      rw [List.getElem?_toArray, List.getElem?_toArray, List.getElem?_append_left (by simp; omega), List.getElem?_append_left (by simp; omega), List.getElem?_append_left (by simp; omega), List.getElem?_append_left (by simp; omega), List.getElem?_take_of_lt (by omega), List.getElem?_take_of_lt (by omega)]
      simp [z1, z2]
  · rw [hm] at hst ⊢
    simp [Builtin.clear_, run_underlying und_vars, zero_var, Value.cells, zeroCells_var', hst]
theorem delF_some (g cap b : Nat) (l : List Vp) (x : Vp) (w0 : World) (hrow : RowV g cap l w0) (hb : b < w0.heap.size) (hbg : b ≠ g) (hc : w0.cell? ⟨b, 0, none⟩ = some (strV x.1)) (hll : l.length ≤ 1000000) (k0 : Nat) (hk0 : k0 < l.length)
    (hIF : Calls Tryd.prog fIdx #[.slice (some ⟨g, 0, none⟩) l.length cap, fullT x b] w0 fun e w' => e = .returned (.int .i64 k0) ∧ Below w0.heap.size w0 w')
    (hbefore : ∀ j (h : j < l.length), j < k0 → l[j].1 ≠ x.1) (hat : l[k0].1 = x.1) :
    Calls Tryd.prog fDel #[.slice (some ⟨g, 0, none⟩) l.length cap, fullT x b] w0 fun e w' => e = .returned (.slice (some ⟨g, 0, none⟩) (l.filter fun y => !decide (y.1 = x.1)).length cap) ∧ KeepX g w0 w' ∧ RowV g cap (l.filter fun y => !decide (y.1 = x.1)) w' := by
  unfold fullT at *
  have HR : Aside (RowV g cap l w0) := hrow
  have HS : Aside (KeepI (fun y => !decide (y.1 = x.1)) l k0 (k0 + 1) l) := KeepI.start hk0 (fun j h hj => by simpa using hbefore j h hj) (by simp [hat])
  clear hrow hbefore hat
  go_enter Tryd.func81, Tryd.ntmps81
  go_wp2_with (go_at_call 87; refine hIF.mono ?_; rintro e w' ⟨rfl, hq⟩)
  go_loopg [5, 6, 7] l.length (fun gg s5 s6 _ wr => ∃ (i j : Nat) (d : List Vp), s5 = .int .i64 i ∧ s6 = .int .i64 j ∧ l.length - j ≤ gg ∧ Aside (KeepX g w0 wr ∧ RowV g cap d wr ∧ KeepI (fun y => !decide (y.1 = x.1)) l i j d))
  case atStart => exact ⟨k0, k0 + 1, l, rfl, by go_num, by omega, ⟨KeepX.of_below hq, by
    obtain ⟨cur, q1, q2⟩ := HR.out
    exact ⟨cur, by rw [hq.block g (Array.getElem?_eq_some_iff.1 q1).1]; exact q1, q2⟩, HS.out⟩⟩
  case round => 
    obtain ⟨i, j, d, rfl, rfl, hgg, H⟩ := hrel
    by_cases hlt : j < l.length
    · have hltz : (j : Int) < (l.length : Int) := by omega
      obtain ⟨cj, cj1⟩ : wr.cell? ⟨g, j * 2, none⟩ = some (.string ⟨l[j].1.toArray⟩) ∧ wr.cell? ⟨g, j * 2 + 1, none⟩ = some (.string ⟨l[j].2.toArray⟩) := by
        obtain ⟨_, ⟨cur, q1, q2, q3, q4⟩, q5⟩ := H.out
        have hd : j < d.length := by rw [q5.len]; exact hlt
        have he := q5.at hlt
        obtain ⟨z1, z2⟩ := q4 j hd
        rw [he] at z1 z2
        exact ⟨by simp [World.cell?, q1]; exact z1, by simp [World.cell?, q1]; exact z2⟩
      obtain ⟨bj, bj1⟩ : wr.cell? ⟨b, 0, none⟩ = some (strV x.1) ∧ b < wr.heap.size := by
        obtain ⟨q1, _, _⟩ := H.out
        exact ⟨by rw [World.cell?_of_block (q1.block b hb hbg)]; exact hc, Nat.lt_of_lt_of_le hb q1.size⟩
      obtain ⟨gcap, gl⟩ : RowV g cap d wr ∧ i < l.length := by
        obtain ⟨_, q2, q3⟩ := H.out
        have := q3.lt
        exact ⟨q2, by omega⟩
      have hA : ∀ o, (wr.alloc o).cell? ⟨b, 0, none⟩ = some (strV x.1) := fun o => by rw [World.cell?_of_block (Below.heap_alloc wr o b bj1)]; exact bj
      have hA2 : ∀ o, b < (wr.alloc o).heap.size := fun o => by simp; omega
      have hW : ∀ w1, Below (wr.alloc (.cells #[.string ⟨l[j].1.toArray⟩, .string ⟨l[j].2.toArray⟩] 76)).heap.size (wr.alloc (.cells #[.string ⟨l[j].1.toArray⟩, .string ⟨l[j].2.toArray⟩] 76)) w1 →
          w1.cell? ⟨wr.heap.size, 0, none⟩ = some (.string ⟨l[j].1.toArray⟩) ∧ w1.cell? ⟨wr.heap.size, 1, none⟩ = some (.string ⟨l[j].2.toArray⟩) ∧ RowV g cap d w1 ∧ KeepX g wr w1 := fun w1 hB => by
        have h1 := hB.block wr.heap.size (by simp)
        have h2 := heap_alloc_new wr (.cells #[.string ⟨l[j].1.toArray⟩, .string ⟨l[j].2.toArray⟩] 76)
        rw [h2] at h1
        obtain ⟨cur, q1, q2⟩ := gcap
        have hgs : g < wr.heap.size := (Array.getElem?_eq_some_iff.1 q1).1
        refine ⟨by simp [World.cell?, h1], by simp [World.cell?, h1], ⟨cur, ?_, q2⟩, ?_⟩
        · rw [hB.block g (by simp; omega), Below.heap_alloc wr _ g hgs]
          exact q1
        · refine ⟨hB.os, hB.tape, hB.output, Nat.le_trans (by simp) hB.size, fun k hk _ => ?_⟩
          rw [hB.block k (by simp; omega), Below.heap_alloc wr _ k hk]
      have hW' : Aside _ := hW
      clear hW
      cases hq : decide (l[j].1 = x.1) with
      | true =>
        go_wp2_with (go_at_call 83; refine (added1_z x l[j] b _ (hA _) (hA2 _)).mono ?_; rw [hq]; rintro e w1 ⟨rfl, hB⟩; obtain ⟨v0, v1, rw1, kw1⟩ := hW'.out w1 hB)
        go_roundg (l.length - (j + 1))
        case measure => omega
        case rel =>
          obtain ⟨k1, k2, k3⟩ := H.out
          exact ⟨i, j + 1, d, rfl, by go_num, Nat.le_refl _, ⟨k1.trans kw1, rw1, k3.skip hlt (by simp [hq])⟩⟩
      | false =>
        have hRI : ∀ w1, RowV g cap d w1 → ∃ o0 o1, w1.cell? ⟨g, i * 2, none⟩ = some o0 ∧ w1.frozen? ⟨g, i * 2, none⟩ = false ∧ w1.cell? ⟨g, i * 2 + 1, none⟩ = some o1 ∧ w1.frozen? ⟨g, i * 2 + 1, none⟩ = false := fun w1 ⟨cur, q1, q2, q3, q4⟩ => by
          obtain ⟨_, _, k3⟩ := H.out
          obtain ⟨z1, z2⟩ := q4 i (by rw [k3.len]; exact gl)
          refine ⟨_, _, by simp [World.cell?, q1]; exact z1, by simp [World.frozen?, q1], by simp [World.cell?, q1]; exact z2, by simp [World.frozen?, q1]⟩
        have hRI' : Aside _ := hRI
        clear hRI
        go_wp2_with (go_at_call 83; refine (added1_z x l[j] b _ (hA _) (hA2 _)).mono ?_; rw [hq]; rintro e w1 ⟨rfl, hB⟩; obtain ⟨v0, v1, rw1, kw1⟩ := hW'.out w1 hB; obtain ⟨o0, o1, s0, s1, s2, s3⟩ := hRI'.out w1 rw1; have rw1' : Aside _ := rw1; clear rw1)
        go_roundg (l.length - (j + 1))
        case measure => omega
        case rel =>
          obtain ⟨k1, k2, k3⟩ := H.out
          obtain ⟨cur, q1, q2, q3, q4⟩ := rw1'.out
          have hkx : KeepX g w1 ((w1.setCell ⟨g, i * 2, none⟩ (.string ⟨l[j].1.toArray⟩)).setCell ⟨g, i * 2 + 1, none⟩ (.string ⟨l[j].2.toArray⟩)) := ⟨rfl, rfl, rfl, by simp [World.setCell], fun k _ hk => by rw [Below.heap_setCell _ _ _ _ hk, Below.heap_setCell _ _ _ _ hk]⟩
          have hb1 := Go.Joins.block_setCell (Go.Joins.block_setCell q1 (i := i * 2) (.string ⟨l[j].1.toArray⟩)) (i := i * 2 + 1) (.string ⟨l[j].2.toArray⟩)
          refine ⟨i + 1, j + 1, d.set i l[j], by go_num, by go_num, Nat.le_refl _, ⟨k1.trans (kw1.trans hkx), ⟨_, hb1, by simpa using q2, by simpa using q3, fun t ht => ?_⟩, k3.keep hlt (by simp [hq])⟩⟩
          have ht' : t < d.length := by simpa using ht
          obtain ⟨z1, z2⟩ := q4 t ht'
          have hil : i * 2 + 1 < cur.size := by have := k3.len; omega
          by_cases hti : t = i
          · subst hti
            simp [Array.getElem?_setIfInBounds, strV, hil, show t * 2 < cur.size by omega]
          · simp [Array.getElem?_setIfInBounds, List.getElem_set, z1, z2, Ne.symm hti, show ¬ i * 2 + 1 = t * 2 by omega, show ¬ i * 2 = t * 2 by omega, show ¬ i * 2 + 1 = t * 2 + 1 by omega, show ¬ i * 2 = t * 2 + 1 by omega]
    · obtain rfl : j = l.length := by
        obtain ⟨_, _, k3⟩ := H.out
        have := k3.le
        omega
      have hltz : ¬ (l.length : Int) < (l.length : Int) := by omega
      obtain ⟨hil, hlc⟩ : i < l.length ∧ l.length ≤ cap := by
        obtain ⟨_, ⟨_, _, _, q3, _⟩, k3⟩ := H.out
        have h1 := k3.lt
        have h2 := k3.len
        omega
      obtain ⟨w1, hcl, hkr⟩ := run_clear_var wr g i l.length cap d hil H.out.2.1 H.out.2.2.len
      have hkr' : Aside _ := hkr
      clear hkr
      go_wp2
      go_ret
      obtain ⟨k1, k2⟩ := hkr'.out
      obtain ⟨k3, _, k4⟩ := H.out
      have hdn := k4.done
      have hll : (l.filter fun y => !decide (y.1 = x.1)).length = i := by rw [← hdn, List.length_take, k4.len]; omega
      rw [hdn] at k2
      exact ⟨by rw [hll]; rfl, k3.trans k1, k2⟩
theorem delF_emp (ao : Option Addr) (cap b : Nat) (x : Vp) (w : World) : Calls Tryd.prog fDel #[.slice ao 0 cap, fullT x b] w fun e w' => e = .returned (.slice ao 0 cap) ∧ Below w.heap.size w w' :=
  delF_none ao 0 cap _ w (idxF_z0 ao cap _ w)
/-- DeleteFunc of a row that is nobody else's. -/
theorem delF_all (g cap b : Nat) (l : List Vp) (x : Vp) (w0 : World) (hrow : RowV g cap l w0) (hb : b < w0.heap.size) (hbg : b ≠ g) (hc : w0.cell? ⟨b, 0, none⟩ = some (strV x.1)) (hll : l.length ≤ 1000000) :
    Calls Tryd.prog fDel #[.slice (some ⟨g, 0, none⟩) l.length cap, fullT x b] w0 fun e w' => e = .returned (.slice (some ⟨g, 0, none⟩) (l.filter fun y => !decide (y.1 = x.1)).length cap) ∧ KeepX g w0 w' ∧ RowV g cap (l.filter fun y => !decide (y.1 = x.1)) w' := by
  have hI := idxF_z g cap b l x w0 hrow hb hc hll
  rcases fst1_spec x.1 l 0 with ⟨h1, h2⟩ | ⟨k, hk, h1, h2, h3⟩
  · rw [h1] at hI
    have hf : (l.filter fun y => !decide (y.1 = x.1)) = l := List.filter_eq_self.2 fun y hy => by simpa using h2 y hy
    rw [hf]
    refine (delF_none _ _ _ _ w0 hI).mono ?_
    rintro e w' ⟨rfl, hB⟩
    refine ⟨rfl, KeepX.of_below hB, ?_⟩
    obtain ⟨cur, q1, q2⟩ := hrow
    exact ⟨cur, by rw [hB.block g (Array.getElem?_eq_some_iff.1 q1).1]; exact q1, q2⟩
  · rw [h1, Nat.zero_add] at hI
    exact delF_some g cap b l x w0 hrow hb hbg hc hll k hk hI h3 h2
end Go.Proofs.YtmjpdmkgmlhfaaaDoor
