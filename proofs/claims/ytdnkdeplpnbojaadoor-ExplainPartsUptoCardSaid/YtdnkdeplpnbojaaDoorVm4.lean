/- The abstract machine on plain data: laws on states (a temporary is written, a block is new, an object is written, a callee has run). No condition. -/
import Derived.Test.YtdnkdeplpnbojaaDoorVm3
set_option linter.unusedVariables false
set_option linter.unusedSimpArgs false
set_option linter.unusedSectionVars false
namespace Go.VM
open Go Go.RowKit

theorem getKey_setKey_same (k : Nat) (o : AObj) : ∀ H : List (Nat × AObj), getKey k (setKey k o H) = some o
  | [] => by simp [setKey, getKey]
  | (k', o') :: r => by
    unfold setKey
    split
    · simp [getKey]
    · rename_i h; simp [getKey, h, getKey_setKey_same k o r]
theorem getKey_setKey_ne {k k' : Nat} (o : AObj) (h : k ≠ k') : ∀ H : List (Nat × AObj), getKey k' (setKey k o H) = getKey k' H
  | [] => by simp [setKey, getKey, h]
  | (k1, o1) :: r => by
    unfold setKey
    split
    · rename_i h1; subst h1; simp [getKey, h]
    · simp [getKey, getKey_setKey_ne o h r]
theorem getKey_setKey {k k' : Nat} (o : AObj) (H : List (Nat × AObj)) : getKey k' (setKey k o H) = if k = k' then some o else getKey k' H := by
  split
  · rename_i h; subst h; exact getKey_setKey_same _ _ _
  · rename_i h; exact getKey_setKey_ne o h H

section
variable {P : Program} {G : GT} {base : Nat} {R R' : Nat → Nat → Prop} {μ : Nat → Nat} {st : St} {a : Act} {w w' : World}

theorem ObjRel.lt {b : Nat} {o : AObj} (h : ObjRel R w b o) : b < w.heap.size := by
  cases o with
  | cells cs => obtain ⟨vs, T, h, _⟩ := h; exact (Array.getElem?_eq_some_iff.1 h).1
  | map es => obtain ⟨vs, T, h, _⟩ := h; exact (Array.getElem?_eq_some_iff.1 h).1
  | iter s pos => exact (Array.getElem?_eq_some_iff.1 (show w.heap[b]? = _ from h)).1

/-- An object whose block is as it was. -/
theorem ObjRel.of_step (hs : Step base R w R' w') {b : Nat} (hb : w'.heap[b]? = w.heap[b]?) {o : AObj} (h : ObjRel R w b o) : ObjRel R' w' b o := by
  cases o with
  | cells cs => obtain ⟨vs, T, h1, h2, h3⟩ := h; exact ⟨vs, T, hb.trans h1, h2, fun i d hi => ⟨(h3 i d hi).1, (h3 i d hi).2.of_step hs⟩⟩
  | map es => obtain ⟨vs, T, h1, h2, h3⟩ := h; exact ⟨vs, T, hb.trans h1, h2, fun i k v hi => ⟨(h3 i k v hi).1.of_step hs, (h3 i k v hi).2.of_step hs⟩⟩
  | iter s pos => exact hb.trans h

theorem spareBlk_of_own {e : TypeId} {v : Value} (h : OwnSl P base R w e v) {g : Nat} (hg : spareBlk v = some g) :
    ∃ n cap cur, v = .slice (some ⟨g, 0, none⟩) n cap ∧ base ≤ g ∧ w.heap[g]? = some (.cells cur e (0, 0)) ∧ n ≤ cap ∧ cap ≤ maxLen ∧ cur.size = cap * P.cellsOf e ∧ ∀ off, n * P.cellsOf e ≤ off → ¬ R g off := by
  rcases h with ⟨ao, rfl⟩ | ⟨g', n, cap, cur, rfl, h⟩
  · cases ao <;> simp [spareBlk] at hg
  · by_cases hc : cap = 0
    · simp [spareBlk, hc] at hg
    · simp [spareBlk, hc] at hg
      subst hg
      exact ⟨n, cap, cur, rfl, h⟩

theorem OwnSl.base_le {e : TypeId} {v : Value} (h : OwnSl P base R w e v) {g : Nat} (hg : spareBlk v = some g) : base ≤ g := by
  obtain ⟨n, cap, cur, _, h, _⟩ := spareBlk_of_own h hg
  exact h
theorem OwnSl.lt {e : TypeId} {v : Value} (h : OwnSl P base R w e v) {g : Nat} (hg : spareBlk v = some g) : g < w.heap.size := by
  obtain ⟨n, cap, cur, _, _, h, _⟩ := spareBlk_of_own h hg
  exact (Array.getElem?_eq_some_iff.1 h).1

/-- An owned slice whose block is as it was, nothing of which has been settled. -/
theorem OwnSl.keep {e : TypeId} {v : Value} (h : OwnSl P base R w e v) (hb : ∀ g, base ≤ g → g < w.heap.size → w'.heap[g]? = w.heap[g]?) (hr : ∀ g off, g < w.heap.size → R' g off → R g off) : OwnSl P base R' w' e v := by
  rcases h with h | ⟨g, n, cap, cur, h0, h1, h2, h3, h4, h5, h6⟩
  · exact .inl h
  · have hl := (Array.getElem?_eq_some_iff.1 h2).1
    exact .inr ⟨g, n, cap, cur, h0, h1, (hb g h1 hl).trans h2, h3, h4, h5, fun off ho hr' => h6 off ho (hr g off hl hr')⟩

theorem OwnSl.keep1 {e : TypeId} {v : Value} (h : OwnSl P base R w e v) (hb : ∀ g, spareBlk v = some g → w'.heap[g]? = w.heap[g]?) (hr : ∀ g off, spareBlk v = some g → R' g off → R g off) : OwnSl P base R' w' e v := by
  rcases h with h | ⟨g, n, cap, cur, rfl, h1, h2, h3, h4, h5, h6⟩
  · exact .inl h
  · by_cases hc : cap = 0
    · subst hc
      have : n = 0 := by omega
      subst this
      exact .inl ⟨_, rfl⟩
    · have hs : spareBlk (.slice (some ⟨g, 0, none⟩) n cap) = some g := by simp [spareBlk, hc]
      exact .inr ⟨g, n, cap, cur, rfl, h1, (hb g hs).trans h2, h3, h4, h5, fun off ho hr' => h6 off ho (hr g off hs hr')⟩

theorem locVal_put_ne {l : Loc} {dst : Option Tmp} {v : Value} (h : ∀ d, dst = some d → l ≠ .t d) : locVal (a.put dst v) w μ l = locVal a w μ l := by
  cases dst with
  | none => rfl
  | some d =>
    cases l with
    | t i =>
      have : d ≠ i := fun e => h d rfl (by rw [e])
      simp [locVal, Act.put, Array.getElem?_setIfInBounds_ne this]
    | c k off => rfl

theorem mem_dropLoc {l : Loc} {own : List (TypeId × List Loc)} {i : Nat} {c : TypeId × List Loc} (h : (dropLoc l own)[i]? = some c) : ∃ c', own[i]? = some c' ∧ c.1 = c'.1 ∧ ∀ x, x ∈ c.2 ↔ x ∈ c'.2 ∧ x ≠ l := by
  simp only [dropLoc, List.getElem?_map, Option.map_eq_some_iff] at h
  obtain ⟨c', h1, rfl⟩ := h
  exact ⟨c', h1, rfl, fun x => by simp⟩
theorem mem_dropKey {key : Nat} {own : List (TypeId × List Loc)} {i : Nat} {c : TypeId × List Loc} (h : (dropKey key own)[i]? = some c) : ∃ c', own[i]? = some c' ∧ c.1 = c'.1 ∧ ∀ x, x ∈ c.2 ↔ x ∈ c'.2 ∧ x.ofKey key = false := by
  simp only [dropKey, List.getElem?_map, Option.map_eq_some_iff] at h
  obtain ⟨c', h1, rfl⟩ := h
  exact ⟨c', h1, rfl, fun x => by simp⟩
theorem mem_addAlias {src dst : Loc} {own : List (TypeId × List Loc)} {i : Nat} {c : TypeId × List Loc} (h : (addAlias src dst own)[i]? = some c) : ∃ c', own[i]? = some c' ∧ c.1 = c'.1 ∧ ∀ x, x ∈ c.2 → x ∈ c'.2 ∨ (x = dst ∧ src ∈ c'.2) := by
  simp only [addAlias, List.getElem?_map, Option.map_eq_some_iff] at h
  obtain ⟨c', h1, h2⟩ := h
  refine ⟨c', h1, ?_⟩
  split at h2
  · rename_i hc
    subst h2
    refine ⟨rfl, fun x hx => ?_⟩
    simp at hx
    rcases hx with rfl | hx
    · exact .inr ⟨rfl, by simpa using hc⟩
    · exact .inl hx
  · subst h2; exact ⟨rfl, fun x hx => .inl hx⟩

/-- What 'act' claims of the value that is written to 'dst'. -/
def ActOk (P : Program) (base : Nat) (R : Nat → Nat → Prop) (μ : Nat → Nat) (st : St) (a : Act) (w : World) (v : Value) : OA → Prop
  | .no => True
  | .al l => locVal a w μ l = some v
  | .fresh e => OwnSl P base R w e v ∧ (∀ k o, getKey k st.H = some o → spareBlk v ≠ some (μ k)) ∧ ∃ vs, Owns P base R μ st a w vs ∧ ∀ v' ∈ vs, Apart v v' ∧ Apart v' v

/-- The own classes behind a write to 'dst' ('a'', 'w'': the frame and world behind it). -/
theorem Owns.act {a' : Act} {w' : World} {st' : St} {dst : Loc} {v : Value} {act : OA} (hex : ∃ vs, Owns P base R μ st a w vs)
    (hown : st'.own = ownAct dst act st.own) (hkeys : ∀ k o, getKey k st'.H = some o → ∃ o', getKey k st.H = some o')
    (hne : ∀ c ∈ st.own, ∀ l ∈ c.2, l ≠ dst → locVal a' w' μ l = locVal a w μ l) (hd : ∀ u, locVal a' w' μ dst = some u → u = v)
    (hsl : ∀ e u, OwnSl P base R w e u → (∀ k o, getKey k st.H = some o → spareBlk u ≠ some (μ k)) → OwnSl P base R' w' e u)
    (hact : ActOk P base R μ st a w v act) : ∃ vs', Owns P base R' μ st' a' w' vs' := by
  have keep : ∀ (vs : List Value), Owns P base R μ st a w vs → ∀ (i : Nat) (c : TypeId × List Loc) (u : Value), (dropLoc dst st.own)[i]? = some c → vs[i]? = some u → OwnOne P base R' μ st' a' w' c u := fun vs h i c u hc hu => by
    obtain ⟨c', hc', he, hm⟩ := mem_dropLoc hc
    have ho := h.one i c' u hc' hu
    refine ⟨fun l hl u' hu' => ?_, ?_, fun k o hk => ?_⟩
    · have := (hm l).1 hl
      exact ho.locs l this.1 u' ((hne c' (List.mem_of_getElem? hc') l this.1 this.2).symm.trans hu')
    · rw [he]; exact hsl c'.1 u ho.own ho.keys
    · obtain ⟨o', ho'⟩ := hkeys k o hk; exact ho.keys k o' ho'
  cases act with
  | no =>
    obtain ⟨vs, h⟩ := hex
    exact ⟨vs, by rw [hown]; simpa [ownAct, dropLoc] using h.len, fun i c u hc hu => keep vs h i c u (by rw [hown] at hc; exact hc) hu, h.apart⟩
  | al l =>
    obtain ⟨vs, h⟩ := hex
    have h1 := h.one
    by_cases hld : l = dst
    · subst hld
      refine ⟨vs, by rw [hown]; simpa [ownAct] using h.len, fun i c u hc hu => ?_, h.apart⟩
      rw [hown] at hc
      simp only [ownAct, if_true] at hc
      have ho := h1 i c u hc hu
      refine ⟨fun l' hl' u' hu' => ?_, hsl c.1 u ho.own ho.keys, fun k o hk => by obtain ⟨o', ho'⟩ := hkeys k o hk; exact ho.keys k o' ho'⟩
      by_cases hl'' : l' = l
      · subst hl''
        exact (hd u' hu').trans (ho.locs l' hl' v hact)
      · exact ho.locs l' hl' u' ((hne c (List.mem_of_getElem? hc) l' hl' hl'').symm.trans hu')
    · refine ⟨vs, by rw [hown]; simpa [ownAct, hld, addAlias, dropLoc] using h.len, fun i c u hc hu => ?_, h.apart⟩
      rw [hown] at hc
      simp only [ownAct, if_neg hld] at hc
      obtain ⟨c', hc', he, hm⟩ := mem_addAlias hc
      have ho := keep vs h i c' u hc' hu
      refine ⟨fun l' hl' u' hu' => ?_, by rw [he]; exact ho.own, ho.keys⟩
      rcases hm l' hl' with hx | ⟨rfl, hx⟩
      · exact ho.locs l' hx u' hu'
      · obtain ⟨c0, hc0, _, hm0⟩ := mem_dropLoc hc'
        exact (hd u' hu').trans ((h1 i c0 u hc0 hu).locs l ((hm0 l).1 hx).1 v hact)
  | fresh e =>
    obtain ⟨ha1, ha2, vs, h, hap'⟩ := hact
    refine ⟨v :: vs, by rw [hown]; simpa [ownAct, dropLoc] using h.len, fun i c u hc hu => ?_, List.pairwise_cons.2 ⟨fun v' hv' => (hap' v' hv').1, h.apart⟩⟩
    rw [hown] at hc
    cases i with
    | zero =>
      simp [ownAct] at hc hu
      subst hc hu
      exact ⟨fun l hl u hu => by simp at hl; subst hl; exact hd u hu, hsl e v ha1 ha2, fun k o hk => by obtain ⟨o', ho'⟩ := hkeys k o hk; exact ha2 k o' ho'⟩
    | succ i =>
      simp [ownAct] at hc hu
      exact keep vs h i c u hc hu

/-- A TEMPORARY IS WRITTEN. -/
theorem Rel.put {dst : Option Tmp} {v : Value} {dv : DV} {act : OA} (h : Rel P G base R μ st a w) (hv : TV R μ w v dv) (hact : ActOk P base R μ st a w v act) :
    Rel P G base R μ (finish st dst dv act) (a.put dst v) w := by
  cases dst with
  | none => exact h
  | some d =>
    refine ⟨h.defers, by simp [finish, Act.put, h.size], fun i u x hu hx => ?_, h.objs, h.inj, fun c hc k off hl => ?_, ?_, h.glob, h.rset, h.base⟩
    · simp only [finish, Act.put] at hu hx
      by_cases hdi : d = i
      · subst hdi
        have h1 : d < st.tmps.length := by
          by_cases hlt : d < st.tmps.length
          · exact hlt
          · have hno : (st.tmps.set d dv)[d]? = none := List.getElem?_eq_none (by rw [List.length_set]; exact Nat.le_of_not_lt hlt)
            rw [hno] at hx; cases hx
        have h2 : d < a.tmps.size := by rw [h.size]; exact h1
        simp [h1] at hx
        simp [h2] at hu
        subst hu hx
        exact hv
      · rw [Array.getElem?_setIfInBounds_ne hdi] at hu
        rw [List.getElem?_set_ne hdi] at hx
        exact h.tmps i u x hu hx
    · simp only [finish] at hc
      obtain ⟨i, hi⟩ := List.getElem?_of_mem hc
      cases act with
      | no =>
        obtain ⟨c', hc', _, hm⟩ := mem_dropLoc hi
        exact h.locs c' (List.mem_of_getElem? hc') k off ((hm _).1 hl).1
      | al l =>
        by_cases hld : l = .t d
        · simp only [ownAct, if_pos hld] at hi
          exact h.locs c (List.mem_of_getElem? hi) k off hl
        · simp only [ownAct, if_neg hld] at hi
          obtain ⟨c', hc', _, hm⟩ := mem_addAlias hi
          rcases hm _ hl with hx | ⟨hx, _⟩
          · obtain ⟨c0, hc0, _, hm0⟩ := mem_dropLoc hc'
            exact h.locs c0 (List.mem_of_getElem? hc0) k off ((hm0 _).1 hx).1
          · cases hx
      | fresh e =>
        cases i with
        | zero => simp [ownAct] at hi; subst hi; simp at hl
        | succ i =>
          simp [ownAct] at hi
          obtain ⟨c', hc', _, hm⟩ := mem_dropLoc hi
          exact h.locs c' (List.mem_of_getElem? hc') k off ((hm _).1 hl).1
    · refine Owns.act (st' := finish st (some d) dv act) h.own rfl (fun k o hk => ⟨o, hk⟩) (fun c _ l _ hl => locVal_put_ne fun d' hd' => by cases hd'; exact hl) (fun u hu => ?_) (fun e u hu _ => hu) hact
      simp only [locVal, Act.put] at hu
      by_cases hlt : d < a.tmps.size
      · simp [hlt] at hu; exact hu.symm
      · simp [hlt] at hu

/-- The own classes in a later world. -/
theorem Owns.step (h : Rel P G base R μ st a w) {vs : List Value} (hvs : Owns P base R μ st a w vs) (hb : ∀ k, k < w.heap.size → w'.heap[k]? = w.heap[k]?) (hold : ∀ b o, b < w.heap.size → R' b o → R b o) : Owns P base R' μ st a w' vs := by
  obtain ⟨hl, h1, hap⟩ := hvs
  refine ⟨hl, fun i c v hc hv => ?_, hap⟩
  have ho := h1 i c v hc hv
  refine ⟨fun l hl u hu => ?_, ho.own.keep (fun g _ hg => hb g hg) (fun g off hg => hold g off hg), ho.keys⟩
  refine ho.locs l hl u ?_
  cases l with
  | t i => exact hu
  | c k off =>
    obtain ⟨o, hk⟩ := h.locs c (List.mem_of_getElem? hc) k off hl
    obtain ⟨_, _, h3⟩ := h.objs k o hk
    rw [show locVal a w' μ (.c k off) = locVal a w μ (.c k off) from World.cell?_of_block (hb _ h3.lt)] at hu
    exact hu

theorem Owns.lt {vs : List Value} (hvs : Owns P base R μ st a w vs) {v : Value} (hv : v ∈ vs) {g : Nat} (hg : spareBlk v = some g) : g < w.heap.size := by
  obtain ⟨i, hi⟩ := List.getElem?_of_mem hv
  have hil : i < st.own.length := by rw [← hvs.len]; exact (List.getElem?_eq_some_iff.1 hi).1
  exact (hvs.one i st.own[i] v (by simp [hil]) hi).own.lt hg

/-- The world has gone on (a callee has run; a block that is no object of ours is new): nothing of ours has turned. -/
theorem Rel.step (h : Rel P G base R μ st a w) (hs : Step base R w R' w') (hb : ∀ k, k < w.heap.size → w'.heap[k]? = w.heap[k]?) (hn : ∀ b o, R' b o → ¬ R b o → w.heap.size ≤ b) (hr : ∀ b o, R' b o → b < w'.heap.size) :
    Rel P G base R' μ st a w' := by
  have hold : ∀ b o, b < w.heap.size → R' b o → R b o := fun b o hl hr' => by
    by_cases hx : R b o
    · exact hx
    · have := hn b o hr' hx; omega
  refine ⟨h.defers, h.size, fun i v d hv hd => (h.tmps i v d hv hd).of_step hs, fun k o hk => ?_, h.inj, h.locs, ?_, h.glob.of_step hs, hr, Nat.le_trans h.base hs.below.size⟩
  · obtain ⟨h1, h2, h3⟩ := h.objs k o hk
    exact ⟨h1, fun off hr' => h2 off (hold _ _ h3.lt hr'), h3.of_step hs (hb _ h3.lt)⟩
  · obtain ⟨vs, hvs⟩ := h.own
    exact ⟨vs, hvs.step h hb hold⟩

theorem TV.kill {v : Value} {d : DV} (key b : Nat) (h : TV R μ w v d) : TV R (fun k => if k = key then b else μ k) w v (killRef key d) := by
  cases h with
  | d v x h => exact .d v x h
  | undef v => exact .undef v
  | ptr k off =>
    by_cases hk : k = key
    · simp [killRef, hk]; exact .undef _
    · have := TV.ptr (R := R) (μ := fun k => if k = key then b else μ k) (w := w) k off
      simpa [killRef, hk] using this
  | ep b' o cs h => exact .ep b' o cs h
  | mp k =>
    by_cases hk : k = key
    · simp [killRef, hk]; exact .undef _
    · have := TV.mp (R := R) (μ := fun k => if k = key then b else μ k) (w := w) k
      simpa [killRef, hk] using this
  | it k =>
    by_cases hk : k = key
    · simp [killRef, hk]; exact .undef _
    · have := TV.it (R := R) (μ := fun k => if k = key then b else μ k) (w := w) k
      simpa [killRef, hk] using this
  | tup vs ds h1 h2 => exact .tup vs ds h1 h2
  | fn f => exact .fn f
  | anyb b => exact .anyb b

theorem Step.alloc (R : Nat → Nat → Prop) (w : World) (o : Obj) (hb : base ≤ w.heap.size) (hr : ∀ b o, R b o → b < w.heap.size) : Step base R w R (w.alloc o) :=
  ⟨(Below.refl _ _).alloc hb o, fun _ _ h => h, fun _ _ h h' => absurd h h', fun b off hR => World.cell?_alloc_lt w o ⟨b, off, none⟩ (hr b off hR)⟩

/-- A NEW OBJECT. -/
theorem Rel.newObj (h : Rel P G base R μ st a w) (key : Nat) (o : AObj) (ob : Obj) (hob : ObjRel R (w.alloc ob) w.heap.size o) :
    Rel P G base R (fun k => if k = key then w.heap.size else μ k) (newObjAt st key o) a (w.alloc ob) ∧ Step base R w R (w.alloc ob) := by
  have hs : Step base R w R (w.alloc ob) := Step.alloc R w ob h.base h.rset
  have hold : ∀ k, k < w.heap.size → (w.alloc ob).heap[k]? = w.heap[k]? := fun k hk => Below.heap_alloc w ob k hk
  refine ⟨⟨h.defers, by simp [newObjAt, h.size], fun i v d hv hd => ?_, fun k o' hk => ?_, fun k k' o1 o2 h1 h2 he => ?_, fun c hc k off hl => ?_, ?_, h.glob.of_step hs, fun b off hr => by have := h.rset b off hr; simp; omega, by have := h.base; simp; omega⟩, hs⟩
  · simp only [newObjAt, List.getElem?_map, Option.map_eq_some_iff] at hd
    obtain ⟨d0, hd0, rfl⟩ := hd
    exact ((h.tmps i v d0 hv hd0).of_step hs).kill key w.heap.size
  · simp only [newObjAt, getKey_setKey] at hk
    by_cases hkk : key = k
    · subst hkk
      simp at hk
      subst hk
      simp only [if_true]
      exact ⟨h.base, fun off hr => by have := h.rset _ _ hr; omega, hob⟩
    · rw [if_neg hkk] at hk
      obtain ⟨h1, h2, h3⟩ := h.objs k o' hk
      simp only [if_neg (Ne.symm hkk)]
      exact ⟨h1, h2, h3.of_step hs (hold _ h3.lt)⟩
  · simp only [newObjAt, getKey_setKey] at h1 h2
    by_cases hk1 : key = k
    · by_cases hk2 : key = k'
      · exact hk1.symm.trans hk2
      · subst hk1
        rw [if_neg hk2] at h2
        obtain ⟨_, _, h3⟩ := h.objs k' o2 h2
        have := h3.lt
        simp [Ne.symm hk2] at he
        omega
    · rw [if_neg hk1] at h1
      obtain ⟨_, _, h3⟩ := h.objs k o1 h1
      have hlt := h3.lt
      by_cases hk2 : key = k'
      · subst hk2
        simp [Ne.symm hk1] at he
        omega
      · rw [if_neg hk2] at h2
        simp only [if_neg (Ne.symm hk1), if_neg (Ne.symm hk2)] at he
        exact h.inj k k' o1 o2 h1 h2 he
  · obtain ⟨i, hi⟩ := List.getElem?_of_mem hc
    simp only [newObjAt] at hi
    obtain ⟨c', hc', _, hm⟩ := mem_dropKey hi
    have := (hm _).1 hl
    obtain ⟨o', ho'⟩ := h.locs c' (List.mem_of_getElem? hc') k off this.1
    simp only [newObjAt, getKey_setKey]
    split
    · exact ⟨_, rfl⟩
    · exact ⟨o', ho'⟩
  · obtain ⟨vs, hl, h1, hap⟩ := h.own
    refine ⟨vs, by simpa [newObjAt, dropKey] using hl, fun i c v hc hv => ?_, hap⟩
    simp only [newObjAt] at hc
    obtain ⟨c', hc', he, hm⟩ := mem_dropKey hc
    have ho := h1 i c' v hc' hv
    refine ⟨fun l hl u hu => ?_, by rw [he]; exact ho.own.keep (fun g _ hg => hold g hg) (fun g off _ hr => hr), fun k o' hk => ?_⟩
    · have hx := (hm l).1 hl
      refine ho.locs l hx.1 u ?_
      cases l with
      | t i => exact hu
      | c k off =>
        have hkk : k ≠ key := by simpa [Loc.ofKey] using hx.2
        obtain ⟨o', ho'⟩ := h.locs c' (List.mem_of_getElem? hc') k off hx.1
        obtain ⟨_, _, h3⟩ := h.objs k o' ho'
        simp only [locVal, if_neg hkk] at hu ⊢
        rw [← hu]
        exact (World.cell?_of_block (hold _ h3.lt)).symm
    · simp only [newObjAt, getKey_setKey] at hk
      by_cases hkk : key = k
      · subst hkk
        simp only [if_true]
        intro hsp
        have := ho.own.lt hsp
        omega
      · rw [if_neg hkk] at hk
        simp only [if_neg (Ne.symm hkk)]
        exact ho.keys k o' hk
end
end Go.VM
