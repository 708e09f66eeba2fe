/- The abstract machine on plain data: how a state stands to the model's frame and world; what a contract says. No condition. -/
import Derived.Test.YtdnkdeplpnbojaaDoorVm2
set_option linter.unusedVariables false
set_option linter.unusedSimpArgs false
set_option linter.unusedSectionVars false
namespace Go.VM
open Go Go.RowKit

/-- VALUE v READS, IN WORLD w, THROUGH SETTLED CELLS R ALONE, AS d. -/
inductive V (R : Nat → Nat → Prop) (w : World) : Value → D → Prop
  | int (k : IntKind) (n : Int) : V R w (.int k n) (.int k n)
  | bool (b : Bool) : V R w (.bool b) (.bool b)
  | str (s : List UInt8) : V R w (.string ⟨s.toArray⟩) (.str s)
  | nils (ao : Option Addr) : V R w (.slice ao 0 0) .nils
  | emp (ao : Option Addr) (cap : Nat) : V R w (.slice ao 0 cap) (.sl [])
  | sl (b o n cap size : Nat) (es : List (List D)) (f : Nat → Nat → Value) : n = es.length → n ≤ cap → 0 < size → (∀ e ∈ es, e.length = size) →
      (∀ (i j : Nat), i < n → j < size → R b (o + i * size + j) ∧ w.cell? ⟨b, o + i * size + j, none⟩ = some (f i j)) →
      (∀ (i j : Nat) (e : List D) (d : D), es[i]? = some e → e[j]? = some d → d.one = true) →
      (∀ (i j : Nat) (e : List D) (d : D), es[i]? = some e → e[j]? = some d → V R w (f i j) d) → V R w (.slice (some ⟨b, o, none⟩) n cap) (.sl es)
  | agg (cs : Array Value) (ds : List D) : cs.size = ds.length → (∀ (i : Nat) (d : D), ds[i]? = some d → d.one = true) → (∀ (i : Nat) (d : D), ds[i]? = some d → V R w (cs.getD i undef) d) → V R w (.agg cs) (.agg ds)

/-- A run of cells that reads as cs. -/
def Run (R : Nat → Nat → Prop) (w : World) (b o : Nat) (cs : List D) : Prop :=
  ∀ (j : Nat) (d : D), cs[j]? = some d → d.one = true ∧ R b (o + j) ∧ ∃ v, w.cell? ⟨b, o + j, none⟩ = some v ∧ V R w v d

inductive TV (R : Nat → Nat → Prop) (μ : Nat → Nat) (w : World) : Value → DV → Prop
  | d (v : Value) (x : D) : V R w v x → TV R μ w v (.d x)
  | undef (v : Value) : TV R μ w v .undef
  | ptr (k off : Nat) : TV R μ w (.pointer (some ⟨μ k, off, none⟩)) (.ptr k off)
  | ep (b o : Nat) (cs : List D) : Run R w b o cs → TV R μ w (.pointer (some ⟨b, o, none⟩)) (.ep cs)
  | mp (k : Nat) : TV R μ w (.map (some (μ k))) (.mp k)
  | it (k : Nat) : TV R μ w (.pointer (some ⟨μ k, 0, none⟩)) (.it k)
  | tup (vs : Array Value) (ds : List D) : vs.size = ds.length → (∀ (i : Nat) (d : D), ds[i]? = some d → V R w (vs.getD i Go.undef) d) → TV R μ w (.tuple vs) (.tup ds)
  | fn (f : FuncId) : TV R μ w (.func (.func f) #[] #[]) (.fn f)
  | anyb (b : Bool) : TV R μ w (.bool b) .anyb

def ObjRel (R : Nat → Nat → Prop) (w : World) (b : Nat) : AObj → Prop
  | .cells cs => ∃ vs T, w.heap[b]? = some (.cells vs T (0, 0)) ∧ vs.size = cs.length ∧ ∀ (i : Nat) (d : D), cs[i]? = some d → d.one = true ∧ V R w (vs.getD i undef) d
  | .map es => ∃ ents clock, w.heap[b]? = some (.map ents clock) ∧ ents.size = es.length ∧ ∀ (i : Nat) (k v : D), es[i]? = some (k, v) → V R w ((ents.getD i default).key) k ∧ V R w ((ents.getD i default).val) v
  | .iter s pos => w.heap[b]? = some (.stringIter ⟨s.toArray⟩ pos)

def spareBlk : Value → Option Nat
  | .slice (some a) _ cap => if cap = 0 then none else some a.block
  | _ => none

/-- The slice v has spare places that nobody reads. -/
def OwnSl (P : Program) (base : Nat) (R : Nat → Nat → Prop) (w : World) (e : TypeId) (v : Value) : Prop :=
  (∃ ao, v = .slice ao 0 0) ∨
  ∃ g n cap cur, v = .slice (some ⟨g, 0, none⟩) n cap ∧ base ≤ g ∧ w.heap[g]? = some (.cells cur e (0, 0)) ∧ n ≤ cap ∧ cap ≤ maxLen ∧ cur.size = cap * P.cellsOf e ∧ ∀ off, n * P.cellsOf e ≤ off → ¬ R g off

def locVal (a : Act) (w : World) (μ : Nat → Nat) : Loc → Option Value
  | .t i => a.tmps[i]?
  | .c k off => w.cell? ⟨μ k, off, none⟩

structure OwnOne (P : Program) (base : Nat) (R : Nat → Nat → Prop) (μ : Nat → Nat) (st : St) (a : Act) (w : World) (c : TypeId × List Loc) (v : Value) : Prop where
  locs : ∀ l ∈ c.2, ∀ u, locVal a w μ l = some u → u = v
  own : OwnSl P base R w c.1 v
  keys : ∀ k o, getKey k st.H = some o → spareBlk v ≠ some (μ k)

def Apart (v v' : Value) : Prop := ∀ g, spareBlk v = some g → spareBlk v' ≠ some g

structure Owns (P : Program) (base : Nat) (R : Nat → Nat → Prop) (μ : Nat → Nat) (st : St) (a : Act) (w : World) (vs : List Value) : Prop where
  len : vs.length = st.own.length
  one : ∀ (i : Nat) (c : TypeId × List Loc) (v : Value), st.own[i]? = some c → vs[i]? = some v → OwnOne P base R μ st a w c v
  apart : vs.Pairwise Apart

/-- The package-level variables lie in blocks below base, and hold just what G says. -/
def Glob (G : GT) (base : Nat) (R : Nat → Nat → Prop) (w : World) : Prop := ∀ g cs, G g = some cs → Run R w g 0 cs ∧ g < base ∧ ∃ arr T fr, w.heap[g]? = some (.cells arr T fr) ∧ arr.size = cs.length

structure Rel (P : Program) (G : GT) (base : Nat) (R : Nat → Nat → Prop) (μ : Nat → Nat) (st : St) (a : Act) (w : World) : Prop where
  defers : a.defers = []
  size : a.tmps.size = st.tmps.length
  tmps : ∀ (i : Nat) (v : Value) (d : DV), a.tmps[i]? = some v → st.tmps[i]? = some d → TV R μ w v d
  objs : ∀ k o, getKey k st.H = some o → base ≤ μ k ∧ (∀ off, ¬ R (μ k) off) ∧ ObjRel R w (μ k) o
  inj : ∀ k k' o o', getKey k st.H = some o → getKey k' st.H = some o' → μ k = μ k' → k = k'
  locs : ∀ c ∈ st.own, ∀ k off, Loc.c k off ∈ c.2 → ∃ o, getKey k st.H = some o
  own : ∃ vs, Owns P base R μ st a w vs
  glob : Glob G base R w
  rset : ∀ b o, R b o → b < w.heap.size
  base : base ≤ w.heap.size

/-- What a step does to the world: old blocks stay, settled cells stay. -/
structure Step (base : Nat) (R : Nat → Nat → Prop) (w : World) (R' : Nat → Nat → Prop) (w' : World) : Prop where
  below : Below base w w'
  mono : ∀ b o, R b o → R' b o
  new : ∀ b o, R' b o → ¬ R b o → base ≤ b
  cells : ∀ b o, R b o → w'.cell? ⟨b, o, none⟩ = w.cell? ⟨b, o, none⟩

theorem Step.refl (base : Nat) (R : Nat → Nat → Prop) (w : World) : Step base R w R w := ⟨Below.refl _ _, fun _ _ h => h, fun _ _ h h' => absurd h h', fun _ _ _ => rfl⟩
theorem Step.trans {base : Nat} {R R' R'' : Nat → Nat → Prop} {w w' w'' : World} (h : Step base R w R' w') (h' : Step base R' w' R'' w'') : Step base R w R'' w'' :=
  ⟨h.below.trans h'.below, fun b o hr => h'.mono b o (h.mono b o hr), fun b o hr hn => by
    by_cases hm : R' b o
    · exact h.new b o hm hn
    · exact h'.new b o hr hm, fun b o hr => (h'.cells b o (h.mono b o hr)).trans (h.cells b o hr)⟩

/-- THE CONTRACT OF A FUNCTION: called with values that read as ds it returns, old blocks stay, the result reads as r; 'own': its spare places are nobody's. -/
def CS (P : Program) (G : GT) (f : FuncId) (ds : List D) (r : DV) (own : Option TypeId) : Prop :=
  ∀ (w : World) (R : Nat → Nat → Prop) (args : Array Value), Glob G w.heap.size R w → (∀ b o, R b o → b < w.heap.size) → args.size = ds.length →
    (∀ (i : Nat) (d : D), ds[i]? = some d → V R w (args.getD i undef) d) →
    Calls P f args w fun e w' => ∃ v R', e = .returned v ∧ (∀ μ, TV R' μ w' v r) ∧ Step w.heap.size R w R' w' ∧ (∀ b o, R' b o → b < w'.heap.size) ∧
      (∀ e, own = some e → OwnSl P w.heap.size R' w' e v)

/-- From a state on, the code c comes to Q. -/
def SW (P : Program) (G : GT) (c : Code) (st : St) (Q : Exit → St → Prop) : Prop :=
  ∀ base R μ a w, Rel P G base R μ st a w → c.wp P (fun e a' w' => ∃ st' R' μ', Q e st' ∧ Rel P G base R' μ' st' a' w' ∧ Step base R w R' w') a w

/-! ### What is settled stays -/

theorem V.step {R R' : Nat → Nat → Prop} {w w' : World} (hm : ∀ b o, R b o → R' b o) (hc : ∀ b o, R b o → w'.cell? ⟨b, o, none⟩ = w.cell? ⟨b, o, none⟩) {v : Value} {d : D} (h : V R w v d) : V R' w' v d := by
  induction h with
  | int k n => exact .int k n
  | bool b => exact .bool b
  | str s => exact .str s
  | nils ao => exact .nils ao
  | emp ao cap => exact .emp ao cap
  | sl b o n cap size es f h1 h2 h3 h4 h5 h6 _ ih =>
    exact .sl b o n cap size es f h1 h2 h3 h4 (fun i j hi hj => ⟨hm _ _ (h5 i j hi hj).1, (hc _ _ (h5 i j hi hj).1).trans (h5 i j hi hj).2⟩) h6 ih
  | agg cs ds h1 h2 _ ih => exact .agg cs ds h1 h2 ih

theorem V.of_step {base : Nat} {R R' : Nat → Nat → Prop} {w w' : World} (hs : Step base R w R' w') {v : Value} {d : D} (h : V R w v d) : V R' w' v d := h.step hs.mono hs.cells

theorem Run.of_step {base : Nat} {R R' : Nat → Nat → Prop} {w w' : World} (hs : Step base R w R' w') {b o : Nat} {cs : List D} (h : Run R w b o cs) : Run R' w' b o cs := by
  intro j d hj
  obtain ⟨h1, h2, v, h3, h4⟩ := h j d hj
  exact ⟨h1, hs.mono _ _ h2, v, (hs.cells _ _ h2).trans h3, h4.of_step hs⟩

theorem TV.of_step {base : Nat} {R R' : Nat → Nat → Prop} {μ : Nat → Nat} {w w' : World} (hs : Step base R w R' w') {v : Value} {d : DV} (h : TV R μ w v d) : TV R' μ w' v d := by
  cases h with
  | d v x h => exact .d v x (h.of_step hs)
  | undef v => exact .undef v
  | ptr k off => exact .ptr k off
  | ep b o cs h => exact .ep b o cs (h.of_step hs)
  | mp k => exact .mp k
  | it k => exact .it k
  | tup vs ds h1 h2 => exact .tup vs ds h1 fun i d hi => (h2 i d hi).of_step hs
  | fn f => exact .fn f
  | anyb b => exact .anyb b

theorem Glob.of_step {G : GT} {base : Nat} {R R' : Nat → Nat → Prop} {w w' : World} (hs : Step base R w R' w') (h : Glob G base R w) : Glob G base R' w' := fun g cs hg => by
  obtain ⟨h1, h2, arr, T, fr, h3, h4⟩ := h g cs hg
  exact ⟨h1.of_step hs, h2, arr, T, fr, by rw [hs.below.block g h2]; exact h3, h4⟩
theorem Glob.up {G : GT} {base base' : Nat} {R : Nat → Nat → Prop} {w : World} (h : Glob G base R w) (hb : base ≤ base') : Glob G base' R w := fun g cs hg => by
  obtain ⟨h1, h2, h3⟩ := h g cs hg
  exact ⟨h1, Nat.lt_of_lt_of_le h2 hb, h3⟩

theorem V.oneCell {R : Nat → Nat → Prop} {w : World} {v : Value} {d : D} (h : V R w v d) (h1 : d.one = true) : v.oneCell' = true := by
  cases h <;> first | rfl | (simp [D.one] at h1)

theorem V.cells_one {R : Nat → Nat → Prop} {w : World} {v : Value} {d : D} (h : V R w v d) (h1 : d.one = true) : v.cells = #[v] ∧ d.cells = [d] := by
  cases h <;> first | exact ⟨rfl, rfl⟩ | (simp [D.one] at h1)

/-- A value's cells, one by one. -/
theorem V.cells {R : Nat → Nat → Prop} {w : World} {v : Value} {d : D} (h : V R w v d) : v.cells.size = d.cells.length ∧ ∀ (i : Nat) (c : D), d.cells[i]? = some c → c.one = true ∧ V R w (v.cells.getD i undef) c := by
  cases h with
  | agg cs ds h1 h2 h3 => exact ⟨h1, fun i c hi => ⟨h2 i c hi, h3 i c hi⟩⟩
  | int k n => exact ⟨rfl, fun i c hi => by cases i <;> simp [D.cells] at hi; subst hi; exact ⟨rfl, .int k n⟩⟩
  | bool b => exact ⟨rfl, fun i c hi => by cases i <;> simp [D.cells] at hi; subst hi; exact ⟨rfl, .bool b⟩⟩
  | str s => exact ⟨rfl, fun i c hi => by cases i <;> simp [D.cells] at hi; subst hi; exact ⟨rfl, .str s⟩⟩
  | nils ao => exact ⟨rfl, fun i c hi => by cases i <;> simp [D.cells] at hi; subst hi; exact ⟨rfl, .nils ao⟩⟩
  | emp ao cap => exact ⟨rfl, fun i c hi => by cases i <;> simp [D.cells] at hi; subst hi; exact ⟨rfl, .emp ao cap⟩⟩
  | sl b o n cap size es f h1 h2 h3 h4 h5 h6 h7 =>
    exact ⟨rfl, fun i c hi => by cases i <;> simp [D.cells] at hi; subst hi; exact ⟨rfl, .sl b o n cap size es f h1 h2 h3 h4 h5 h6 h7⟩⟩
end Go.VM
