/- Joined texts. The abstract machine on plain data: from a row's reading of its arguments to data, and from a contract to what a row says. The abstract machine on plain data: a run of it on given data, by the kernel: what it gives is what the function answers. No condition. -/
import Derived.Test.YtcmpodbjhoeblaaDoorZF
import Derived.ReadAgain
import Derived.ChangeSame
import Derived.OpenShut
import Derived.RowKit3
import Derived.LoopN
set_option linter.unusedVariables false
set_option linter.unusedSimpArgs false
set_option linter.unusedSectionVars false
namespace Go.VM
open Go Go.RowKit Go.ChangeShapes Go.WideShapes

mutual
/-- The cells that a reading stands for. -/
def flat {H : Type} : DataW H → List D
  | .lit (.int k n) => [.int k n]
  | .lit (.bool b) => [.bool b]
  | .lit (.string s) => [.str s]
  | .nil => [.sl []]
  | .slice es _ => [.sl (flatEach es)]
  | .agg ps => flatCat ps
  | _ => []
def flatEach {H : Type} : List (DataW H) → List (List D)
  | [] => []
  | d :: r => flat d :: flatEach r
def flatCat {H : Type} : List (DataW H) → List D
  | [] => []
  | d :: r => flat d ++ flatCat r
end
theorem flatEach_eq {H : Type} : ∀ l : List (DataW H), flatEach l = l.map flat
  | [] => by simp [flatEach]
  | d :: r => by simp [flatEach, flatEach_eq r]
theorem flatCat_eq {H : Type} : ∀ l : List (DataW H), flatCat l = (l.map flat).flatten
  | [] => by simp [flatCat]
  | d :: r => by simp [flatCat, flatCat_eq r]

/-- Cells that fit a type of plain data. -/
inductive FitsT (P : Program) : TypeId → List D → Prop
  | bool {t : TypeId} {b : Bool} : P.underlying t = some .bool → FitsT P t [.bool b]
  | int {t : TypeId} {k : IntKind} {n : Int} : P.underlying t = some (.int k) → (Lit.int k n).wf = true → FitsT P t [.int k n]
  | str {t : TypeId} {s : List UInt8} : P.underlying t = some .string → s.length ≤ maxLen → FitsT P t [.str s]
  | sl {t e : TypeId} {es : List (List D)} : P.underlying t = some (.slice e) → es.length ≤ maxLen → (∀ x ∈ es, FitsT P e x) → FitsT P t [.sl es]
  | struct {t : TypeId} {fs : Array Field} {ds : List D} : P.underlying t = some (.struct fs) → ds.length = P.cellsOf t → (∀ f ∈ fs.toList, FitsT P f.type ((ds.drop f.offset).take (P.cellsOf f.type))) → FitsT P t ds
  | array {t e : TypeId} {n : Nat} {ds : List D} : P.underlying t = some (.array n e) → ds.length = P.cellsOf t → (∀ i, i < n → FitsT P e ((ds.drop (i * P.cellsOf e)).take (P.cellsOf e))) → FitsT P t ds

/-- These types are of plain data, and so are their parts. -/
def plainOk (P : Program) (L : List TypeId) : Bool := L.all fun t => decide (t < P.types.size) && match P.underlying t with
  | some .bool | some (.int _) | some .string => true
  | some (.slice e) => L.contains e && decide (0 < P.cellsOf e)
  | some (.struct fs) => fs.toList.all fun f => L.contains f.type
  | some (.array _ e) => L.contains e
  | _ => false

theorem cell_add {w : World} {a : Addr} {m : Nat} {v : Value} (h : w.cell? (a.add m) = some v) : w.cell? ⟨a.block, a.off + m, none⟩ = some v := by
  obtain ⟨b, o, sp⟩ := a
  by_cases hm : m = 0
  · subst hm
    simp only [Addr.add, if_true] at h
    unfold World.cell? at h ⊢
    simp only at h ⊢
    cases hb : w.heap[b]? with
    | none => rw [hb] at h; cases h
    | some o' =>
      rw [hb] at h
      cases o' with
      | cells c _ _ =>
        simp only at h ⊢
        split at h
        · cases h
        · simpa using h
      | _ => cases h
  · simpa [Addr.add, hm] using h
theorem spot_none {w : World} {a : Addr} {v : Value} (h : w.cell? a = some v) : a.spot = none := by
  unfold World.cell? at h
  split at h
  · split at h
    · cases h
    · rename_i hs; simpa using hs
  · cases h
theorem cell_lt {w : World} {a : Addr} {v : Value} (h : w.cell? a = some v) : a.block < w.heap.size := by
  unfold World.cell? at h
  split at h
  · rename_i hb; exact (Array.getElem?_eq_some_iff.1 hb).1
  · cases h
theorem mapM_some_at {α β : Type} {f : α → Option β} : ∀ {l : List α} {r : List β}, l.mapM f = some r → ∀ (i : Nat) (a : α), l[i]? = some a → ∃ b, r[i]? = some b ∧ f a = some b
  | [], _, _, i, a, ha => by simp at ha
  | x :: l, r, h, i, a, ha => by
    rw [List.mapM_cons] at h
    obtain ⟨b, hb, h⟩ := Option.bind_eq_some_iff.1 h
    obtain ⟨bs, hbs, h⟩ := Option.bind_eq_some_iff.1 h
    cases h
    cases i with
    | zero => simp at ha; subst ha; exact ⟨b, rfl, hb⟩
    | succ i => exact mapM_some_at hbs i a (by simpa using ha)
theorem cells_at {w : World} {base : Nat} {a : Addr} {n : Nat} {cs : List Value} (h : w.cells? base a n = some cs) : cs.length = n ∧ ∀ j, j < n → w.cell? (a.add j) = some (cs.getD j undef) := by
  unfold World.cells? at h
  split at h
  · have hl := mapM_some_length h
    refine ⟨by simpa using hl, fun j hj => ?_⟩
    obtain ⟨v, h1, h2⟩ := mapM_some_at h j j (by simp [hj])
    simpa [List.getD, h1] using h2
  · cases h
theorem flatten_part {α : Type} : ∀ (ls : List (List α)) (j : Nat) (l : List α), ls[j]? = some l → (ls.flatten.drop ((ls.take j).map List.length).sum).take l.length = l
  | [], j, l, h => by simp at h
  | x :: r, 0, l, h => by simp at h; subst h; simp
  | x :: r, j + 1, l, h => by
    simp only [List.getElem?_cons_succ] at h
    have := flatten_part r j l h
    simp only [List.flatten_cons, List.take_succ_cons, List.map_cons, List.sum_cons]
    rw [← List.drop_drop, List.drop_append_of_le_length (Nat.le_refl _), List.drop_length, List.nil_append]
    exact this
theorem flatten_at {α : Type} : ∀ (ls : List (List α)) (i : Nat) (x : α), ls.flatten[i]? = some x → ∃ j l k, ls[j]? = some l ∧ l[k]? = some x ∧ i = ((ls.take j).map List.length).sum + k
  | [], i, x, h => by simp at h
  | l :: r, i, x, h => by
    simp only [List.flatten_cons] at h
    by_cases hi : i < l.length
    · rw [List.getElem?_append_left hi] at h
      exact ⟨0, l, i, rfl, h, by simp⟩
    · rw [List.getElem?_append_right (by omega)] at h
      obtain ⟨j, l', k, h1, h2, h3⟩ := flatten_at r _ x h
      exact ⟨j + 1, l', k, h1, h2, by rw [List.take_succ_cons, List.map_cons, List.sum_cons]; omega⟩

section
variable {P : Program} {H : Type} {enc : TypeId × Value → H} {w : World} {sp : Nat → Bool} {held : Bool} {L : List TypeId}
/-- All that lies in the world may be read. -/
abbrev RW (w : World) : Nat → Nat → Prop := fun b _ => b < w.heap.size

/-- A run of values that reads as the parts do. -/
theorem parts_read {parts : List (DataW H × List MemPlace)} {cs : List Value} {offs : List Nat} {szs : List Nat}
    (hl : offs.length = parts.length) (hl' : szs.length = parts.length) (hsum : ∀ (j : Nat) (o : Nat), offs[j]? = some o → o = (szs.take j).sum) (hcs : cs.length = szs.sum)
    (h : ∀ (j : Nat) (y : DataW H × List MemPlace) (o s : Nat), parts[j]? = some y → offs[j]? = some o → szs[j]? = some s → (flat y.1).length = ((cs.drop o).take s).length ∧ ∀ i d, (flat y.1)[i]? = some d → d.one = true ∧ V (RW w) w (((cs.drop o).take s).getD i undef) d) :
    (flatCat (parts.map (·.1))).length = cs.length ∧ (∀ (j : Nat) (y : DataW H × List MemPlace) (o s : Nat), parts[j]? = some y → offs[j]? = some o → szs[j]? = some s → ((flatCat (parts.map (·.1))).drop o).take s = flat y.1) ∧
      ∀ i d, (flatCat (parts.map (·.1)))[i]? = some d → d.one = true ∧ V (RW w) w (cs.getD i undef) d := by
  rw [flatCat_eq, List.map_map]
  have hlen : ∀ (j : Nat) (y : DataW H × List MemPlace) (o s : Nat), parts[j]? = some y → offs[j]? = some o → szs[j]? = some s → (flat y.1).length = s := fun j y o s h1 h2 h3 => by
    rw [(h j y o s h1 h2 h3).1, List.length_take, List.length_drop]
    have := hsum j o h2
    have hle : (szs.take j).sum + s ≤ szs.sum := by
      have hj : j < szs.length := (List.getElem?_eq_some_iff.1 h3).1
      have hs : szs[j] = s := by rw [List.getElem?_eq_getElem hj] at h3; exact Option.some.inj h3
      have e : szs.sum = (szs.take j).sum + (szs.drop j).sum := by rw [← List.sum_append, List.take_append_drop]
      rw [e, List.drop_eq_getElem_cons hj, List.sum_cons, hs]
      omega
    omega
  have hmap : parts.map (List.length ∘ flat ∘ (·.1)) = szs := by
    apply List.ext_getElem?
    intro j
    rw [List.getElem?_map]
    by_cases hj : j < parts.length
    · have h1 : parts[j]? = some parts[j] := List.getElem?_eq_getElem hj
      have h2 : offs[j]? = some (offs[j]'(by omega)) := List.getElem?_eq_getElem _
      have h3 : szs[j]? = some (szs[j]'(by omega)) := List.getElem?_eq_getElem _
      rw [h1, h3]
      simpa using hlen j _ _ _ h1 h2 h3
    · rw [List.getElem?_eq_none (by omega), List.getElem?_eq_none (by omega)]
      rfl
  have hpre : ∀ j, (((parts.map (flat ∘ (·.1))).take j).map List.length).sum = (szs.take j).sum := fun j => by
    rw [← hmap, ← List.map_take, ← List.map_take, List.map_map]
  refine ⟨?_, fun j y o s h1 h2 h3 => ?_, fun i d hi => ?_⟩
  · rw [List.length_flatten, List.map_map, hmap, hcs]
  · have := flatten_part (parts.map (flat ∘ (·.1))) j (flat y.1) (by rw [List.getElem?_map, h1]; rfl)
    rw [hpre, ← hsum j o h2, hlen j y o s h1 h2 h3] at this
    exact this
  · obtain ⟨j, l, k, h1, h2, h3⟩ := flatten_at _ i d hi
    rw [hpre] at h3
    rw [List.getElem?_map] at h1
    obtain ⟨y, hy, rfl⟩ := Option.map_eq_some_iff.1 h1
    have hj : j < parts.length := (List.getElem?_eq_some_iff.1 hy).1
    have e2 : offs[j]? = some (offs[j]'(by omega)) := List.getElem?_eq_getElem _
    have e3 : szs[j]? = some (szs[j]'(by omega)) := List.getElem?_eq_getElem _
    obtain ⟨q1, q2⟩ := h j y _ _ hy e2 e3
    obtain ⟨q3, q4⟩ := q2 k d h2
    refine ⟨q3, ?_⟩
    have hk : k < (flat y.1).length := (List.getElem?_eq_some_iff.1 h2).1
    rw [hlen j y _ _ hy e2 e3] at hk
    have : ((cs.drop (offs[j]'(by omega))).take (szs[j]'(by omega))).getD k undef = cs.getD i undef := by
      simp only [List.getD, List.getElem?_take, hk, if_true, List.getElem?_drop]
      rw [h3, hsum j _ e2]
    rwa [this] at q4

theorem read_trod (hlo : laidOutB P = true) (hp : plainOk P L = true) : ∀ (n : Nat) (t : TypeId) (cs : List Value) (x : DataW H × List MemPlace), L.contains t = true → DataW.trod enc P w 0 sp held n t cs = some x →
    (flat x.1).length = cs.length ∧ FitsT P t (flat x.1) ∧ ∀ i d, (flat x.1)[i]? = some d → d.one = true ∧ V (RW w) w (cs.getD i undef) d := by
  intro n
  induction n with
  | zero => intro t cs x _ h; simp [DataW.trod] at h
  | succ n ih =>
    intro t cs x hT h
    have hrow := List.all_eq_true.1 hp t (by simpa using hT)
    simp only [Bool.and_eq_true, decide_eq_true_eq] at hrow
    obtain ⟨hts, hrow⟩ := hrow
    rw [DataW.trod_step] at h
    have one : ∀ (v : Value) (d : D), d.one = true → V (RW w) w v d → ∀ i d', ([d] : List D)[i]? = some d' → d'.one = true ∧ V (RW w) w ([v].getD i undef) d' := fun v d h1 h2 i d' hi => by
      cases i with
      | zero => simp at hi; subst hi; exact ⟨h1, h2⟩
      | succ i => simp at hi
    unfold DataW.trodStep at h
    split at h
    case h_1 b hu => simp at h; subst h; exact ⟨rfl, .bool hu, one _ _ rfl (.bool b)⟩
    case h_2 k k' m hu =>
      split at h
      · rename_i hk
        obtain ⟨rfl, hk⟩ := hk
        simp at h; subst h; exact ⟨rfl, .int hu hk, one _ _ rfl (.int _ _)⟩
      · cases h
    case h_3 hu => rw [hu] at hrow; cases hrow
    case h_4 s hu =>
      split at h
      · rename_i hs
        simp at h; subst h
        exact ⟨rfl, .str hu (by simpa using hs), one _ _ rfl (.str s.data.toList)⟩
      · cases h
    case h_5 hu => rw [hu] at hrow; cases hrow
    case h_6 hu => rw [hu] at hrow; cases hrow
    case h_7 e hu =>
      simp at h; subst h
      exact ⟨rfl, .sl hu (by simp) (by simp), one _ _ rfl (.emp none 0)⟩
    case h_8 e a len cap hu =>
      rw [hu] at hrow
      simp only [Bool.and_eq_true, decide_eq_true_eq] at hrow
      obtain ⟨heL, hsz⟩ := hrow
      simp only at h
      split at h
      · rename_i hc
        obtain ⟨_, hlc, hcm⟩ := hc
        simp only [Option.map_eq_some_iff, Option.bind_eq_some_iff] at h
        obtain ⟨elems, he, rest, _, rfl⟩ := h
        have hlen : elems.length = len := by simpa using mapM_some_length he
        have each : ∀ (i : Nat) (y : DataW H × List MemPlace), elems[i]? = some y → ∃ cs', w.cells? 0 (a.add (i * P.cellsOf e)) (P.cellsOf e) = some cs' ∧ DataW.trod enc P w 0 sp held n e cs' = some y := fun i y hy => by
          have hi : i < len := by have := (List.getElem?_eq_some_iff.1 hy).1; omega
          obtain ⟨v, h1, h2⟩ := mapM_some_at he i i (by simp [hi])
          rw [hy] at h1
          cases h1
          simpa only [Option.bind_eq_some_iff] using h2
        simp only [flat, flatEach_eq, List.map_map]
        refine ⟨rfl, .sl hu (by simp [hlen]; omega) (fun z hz => ?_), ?_⟩
        · obtain ⟨y, hy, rfl⟩ := List.mem_map.1 hz
          obtain ⟨i, hi⟩ := List.mem_iff_getElem?.1 hy
          obtain ⟨cs', h1, h2⟩ := each i y hi
          exact (ih e cs' y heL h2).2.1
        · refine one _ _ rfl ?_
          by_cases h0 : len = 0
          · subst h0
            have : elems = [] := List.eq_nil_of_length_eq_zero hlen
            subst this
            exact .emp _ _
          · obtain ⟨y0, hy0⟩ : ∃ y, elems[0]? = some y := ⟨elems[0]'(by omega), List.getElem?_eq_getElem _⟩
            obtain ⟨cs0, hc0, _⟩ := each 0 y0 hy0
            have h00 := (cells_at hc0).2 0 hsz
            have hspot : a.spot = none := by simpa [Addr.add] using spot_none h00
            obtain ⟨b, o, sp0⟩ := a
            simp only at hspot
            subst hspot
            have cell : ∀ (i j : Nat), i < len → j < P.cellsOf e → ∃ y cs', elems[i]? = some y ∧ DataW.trod enc P w 0 sp held n e cs' = some y ∧ cs'.length = P.cellsOf e ∧ w.cell? ⟨b, o + i * P.cellsOf e + j, none⟩ = some (cs'.getD j undef) := fun i j hi hj => by
              have hy : elems[i]? = some (elems[i]'(by omega)) := List.getElem?_eq_getElem _
              obtain ⟨cs', h1, h2⟩ := each i _ hy
              obtain ⟨h3, h4⟩ := cells_at h1
              refine ⟨_, cs', hy, h2, h3, ?_⟩
              have h5 := cell_add (h4 j hj)
              have e1 : ((⟨b, o, none⟩ : Addr).add (i * P.cellsOf e)).block = b := by unfold Addr.add; split <;> rfl
              have e2 : ((⟨b, o, none⟩ : Addr).add (i * P.cellsOf e)).off = o + i * P.cellsOf e := by
                unfold Addr.add
                split
                · rename_i hz; simp [hz]
                · rfl
              rw [e1, e2] at h5
              exact h5
            have kid : ∀ (i j : Nat) (e' : List D) (d : D), (elems.map (flat ∘ (·.1)))[i]? = some e' → e'[j]? = some d → d.one = true ∧ V (RW w) w ((w.cell? ⟨b, o + i * P.cellsOf e + j, none⟩).getD undef) d := fun i j e' d h1 h2 => by
              rw [List.getElem?_map] at h1
              obtain ⟨y, hy, rfl⟩ := Option.map_eq_some_iff.1 h1
              have hi : i < len := by have := (List.getElem?_eq_some_iff.1 hy).1; omega
              obtain ⟨cs', hcs', htr⟩ := each i y hy
              obtain ⟨q1, _, q3⟩ := ih e cs' y heL htr
              obtain ⟨p1, p2⟩ := q3 j d h2
              have hj : j < P.cellsOf e := by
                have := (List.getElem?_eq_some_iff.1 h2).1
                have h3 := (cells_at hcs').1
                simp only [Function.comp] at this
                omega
              obtain ⟨y', cs2, hy', htr', hl2, hcell⟩ := cell i j hi hj
              rw [hy] at hy'
              cases hy'
              obtain ⟨h3, h4⟩ := cells_at hcs'
              have h5 := cell_add (h4 j hj)
              have e1 : ((⟨b, o, none⟩ : Addr).add (i * P.cellsOf e)).block = b := by unfold Addr.add; split <;> rfl
              have e2 : ((⟨b, o, none⟩ : Addr).add (i * P.cellsOf e)).off = o + i * P.cellsOf e := by
                unfold Addr.add
                split
                · rename_i hz; simp [hz]
                · rfl
              rw [e1, e2] at h5
              rw [h5]
              exact ⟨p1, p2⟩
            refine .sl b o len cap (P.cellsOf e) _ (fun i j => (w.cell? ⟨b, o + i * P.cellsOf e + j, none⟩).getD undef) (by simp [hlen]) hlc hsz (fun x hx => ?_) (fun i j hi hj => ?_) (fun i j e' d h1 h2 => (kid i j e' d h1 h2).1) (fun i j e' d h1 h2 => (kid i j e' d h1 h2).2)
            · obtain ⟨y, hy, rfl⟩ := List.mem_map.1 hx
              obtain ⟨i, hi⟩ := List.mem_iff_getElem?.1 hy
              obtain ⟨cs', h1, h2⟩ := each i y hi
              simp only [Function.comp]
              rw [(ih e cs' y heL h2).1, (cells_at h1).1]
            · obtain ⟨_, _, _, _, _, hcell⟩ := cell i j hi hj
              rw [hcell]
              exact ⟨cell_lt hcell, rfl⟩
      · cases h
    case h_9 cs _ _ fs hu =>
      rw [hu] at hrow
      simp only at hrow
      split at h
      · rename_i hc
        obtain ⟨hk1, hk2, hk3⟩ := kid_struct hlo hts hu
        simp only [Option.map_eq_some_iff] at h
        obtain ⟨xs, hx, rfl⟩ := h
        have hlen : xs.length = fs.toList.length := mapM_some_length hx
        obtain ⟨q1, q2, q3⟩ := parts_read (w := w) (parts := xs) (cs := cs) (offs := fs.toList.map (·.offset)) (szs := fs.toList.map fun f => P.cellsOf f.type) (by simp [hlen]) (by simp [hlen])
          (fun j o ho => by
            rw [List.getElem?_map] at ho
            obtain ⟨f, hf, rfl⟩ := Option.map_eq_some_iff.1 ho
            rw [hk3 j f hf, List.map_take]) (by rw [hc, hk2])
          (fun j y o s h1 h2 h3 => by
            rw [List.getElem?_map] at h2 h3
            obtain ⟨f, hf, rfl⟩ := Option.map_eq_some_iff.1 h2
            rw [hf] at h3
            simp only [Option.map_some, Option.some.injEq] at h3
            subst h3
            obtain ⟨v, p1, p2⟩ := mapM_some_at hx j f hf
            rw [h1] at p1
            cases p1
            have := ih f.type _ _ (List.all_eq_true.1 hrow f (List.mem_of_getElem? hf)) p2
            exact ⟨this.1, this.2.2⟩)
        simp only [flat]
        refine ⟨q1, .struct hu (by rw [q1, hc]) (fun f hf => ?_), q3⟩
        obtain ⟨j, hj⟩ := List.mem_iff_getElem?.1 hf
        obtain ⟨v, p1, p2⟩ := mapM_some_at hx j f hj
        rw [q2 j v f.offset (P.cellsOf f.type) p1 (by rw [List.getElem?_map, hj]; rfl) (by rw [List.getElem?_map, hj]; rfl)]
        exact (ih f.type _ _ (List.all_eq_true.1 hrow f hf) p2).2.1
      · cases h
    case h_10 cs _ _ m e hu =>
      rw [hu] at hrow
      simp only at hrow
      split at h
      · rename_i hc
        obtain ⟨_, hk2⟩ := kid_array hlo hts hu
        simp only [Option.map_eq_some_iff] at h
        obtain ⟨xs, hx, rfl⟩ := h
        have hlen : xs.length = m := by simpa using mapM_some_length hx
        have at' : ∀ (j : Nat) (y : DataW H × List MemPlace), xs[j]? = some y → DataW.trod enc P w 0 sp held n e ((cs.drop (j * P.cellsOf e)).take (P.cellsOf e)) = some y := fun j y hy => by
          have hj : j < m := by have := (List.getElem?_eq_some_iff.1 hy).1; omega
          obtain ⟨v, p1, p2⟩ := mapM_some_at hx j j (by simp [hj])
          rw [hy] at p1
          cases p1
          exact p2
        have hsumrep : ∀ j, j ≤ m → (((List.replicate m (P.cellsOf e)).take j).sum) = j * P.cellsOf e := fun j hj => by
          rw [List.take_replicate, Nat.min_eq_left hj, List.sum_replicate_nat]
        obtain ⟨q1, q2, q3⟩ := parts_read (w := w) (parts := xs) (cs := cs) (offs := (List.range m).map fun i => i * P.cellsOf e) (szs := List.replicate m (P.cellsOf e)) (by simp [hlen]) (by simp [hlen])
          (fun j o ho => by
            rw [List.getElem?_map] at ho
            obtain ⟨i, hi, rfl⟩ := Option.map_eq_some_iff.1 ho
            have hjm : j < m := by have := (List.getElem?_eq_some_iff.1 hi).1; simpa using this
            have : i = j := by rw [List.getElem?_range hjm] at hi; simpa using hi.symm
            rw [this, hsumrep j (by omega)]) (by rw [hc, hk2, List.sum_replicate_nat])
          (fun j y o s h1 h2 h3 => by
            have hjm : j < m := by have := (List.getElem?_eq_some_iff.1 h1).1; omega
            have ho : o = j * P.cellsOf e := by rw [List.getElem?_map, List.getElem?_range hjm] at h2; simpa using h2.symm
            have hs : s = P.cellsOf e := by rw [List.getElem?_replicate, if_pos hjm] at h3; simpa using h3.symm
            subst ho hs
            have := ih e _ _ hrow (at' j y h1)
            exact ⟨this.1, this.2.2⟩)
        simp only [flat]
        refine ⟨q1, .array hu (by rw [q1, hc]) (fun i hi => ?_), q3⟩
        have hy : xs[i]? = some (xs[i]'(by omega)) := List.getElem?_eq_getElem _
        rw [q2 i _ (i * P.cellsOf e) (P.cellsOf e) hy (by rw [List.getElem?_map, List.getElem?_range hi]; rfl) (by rw [List.getElem?_replicate, if_pos hi])]
        exact (ih e _ _ hrow (at' i _ hy)).2.1
      · cases h
    all_goals first | (rename_i hu; rw [hu] at hrow; cases hrow; done) | (cases h; done)

/-! #### What fits a type -/
theorem fits_str {t : TypeId} {ds : List D} (hu : P.underlying t = some .string) (h : FitsT P t ds) : ∃ s, ds = [.str s] ∧ s.length ≤ maxLen := by
  cases h with
  | str _ h => exact ⟨_, rfl, h⟩
  | _ h1 => rw [hu] at h1; cases h1
theorem fits_int {t : TypeId} {k : IntKind} {ds : List D} (hu : P.underlying t = some (.int k)) (h : FitsT P t ds) : ∃ n, ds = [.int k n] ∧ (Lit.int k n).wf = true := by
  cases h with
  | int h1 h => rw [hu] at h1; cases h1; exact ⟨_, rfl, h⟩
  | _ h1 => rw [hu] at h1; cases h1
theorem fits_bool {t : TypeId} {ds : List D} (hu : P.underlying t = some .bool) (h : FitsT P t ds) : ∃ b, ds = [.bool b] := by
  cases h with
  | bool => exact ⟨_, rfl⟩
  | _ h1 => rw [hu] at h1; cases h1
theorem fits_sl {t e : TypeId} {ds : List D} (hu : elemOfD P t = some e) (h : FitsT P t ds) : ∃ es, ds = [.sl es] ∧ es.length ≤ maxLen ∧ ∀ x ∈ es, FitsT P e x := by
  unfold elemOfD at hu
  cases h with
  | sl h1 h2 h3 => rw [h1] at hu; cases hu; exact ⟨_, rfl, h2, h3⟩
  | _ h1 => rw [h1] at hu; cases hu
theorem fits_field {t : TypeId} {i off : Nat} {u : TypeId} {ds : List D} (hf : fieldOf P t i = some (off, u)) (h : FitsT P t ds) : FitsT P u ((ds.drop off).take (P.cellsOf u)) := by
  unfold fieldOf at hf
  cases h with
  | struct h1 h2 h3 =>
    rw [h1] at hf
    simp only [Option.map_eq_some_iff, Prod.mk.injEq] at hf
    obtain ⟨f, q1, rfl, rfl⟩ := hf
    exact h3 f (Array.mem_toList_iff.2 (Array.mem_of_getElem? q1))
  | _ h1 => rw [h1] at hf; cases hf
theorem fits_len {t : TypeId} {x : Nat × TypeId} {ds : List D} (hf : fieldOf P t 0 = some x) (h : FitsT P t ds) : ds.length = P.cellsOf t := by
  unfold fieldOf at hf
  cases h with
  | struct h1 h2 h3 => exact h2
  | _ h1 => rw [h1] at hf; cases hf
theorem exists_map {α β : Type} {f : α → β} : ∀ {l : List β}, (∀ x ∈ l, ∃ y, x = f y) → ∃ l' : List α, l = l'.map f
  | [], _ => ⟨[], rfl⟩
  | x :: l, h => by
    obtain ⟨y, rfl⟩ := h x (.head _)
    obtain ⟨l', rfl⟩ := exists_map fun z hz => h z (.tail _ hz)
    exact ⟨y :: l', rfl⟩

/-- A value of a type, as a datum. -/
def FitsV (P : Program) (t : TypeId) (d : D) : Prop :=
  match P.underlying t with
  | some u => if descAgg u then ∃ cs, d = .agg cs ∧ FitsT P t cs else FitsT P t [d]
  | none => False
def FitsAll (P : Program) : List TypeId → List D → Prop
  | [], [] => True
  | t :: ts, d :: ds => FitsV P t d ∧ FitsAll P ts ds
  | _, _ => False

theorem fitsV_agg {t : TypeId} {x : Nat × TypeId} {d : D} (hf : fieldOf P t 0 = some x) (h : FitsV P t d) : ∃ cs, d = .agg cs ∧ FitsT P t cs := by
  unfold fieldOf at hf
  unfold FitsV at h
  cases hu : P.underlying t with
  | none => rw [hu] at h; cases h
  | some u =>
    rw [hu] at h hf
    cases u <;> first | (cases hf; done) | exact h
theorem fitsV_one {t : TypeId} {u : TypeDesc} {d : D} (hu : P.underlying t = some u) (ha : descAgg u = false) (h : FitsV P t d) : FitsT P t [d] := by
  unfold FitsV at h
  rw [hu] at h
  simp only [ha] at h
  exact h
theorem fitsV_str {t : TypeId} {d : D} (hu : P.underlying t = some .string) (h : FitsV P t d) : ∃ s, d = .str s ∧ s.length ≤ maxLen := by
  obtain ⟨s, h1, h2⟩ := fits_str hu (fitsV_one hu rfl h)
  cases h1
  exact ⟨s, rfl, h2⟩
theorem fitsV_int {t : TypeId} {k : IntKind} {d : D} (hu : P.underlying t = some (.int k)) (h : FitsV P t d) : ∃ n, d = .int k n ∧ (Lit.int k n).wf = true := by
  obtain ⟨s, h1, h2⟩ := fits_int hu (fitsV_one hu rfl h)
  cases h1
  exact ⟨s, rfl, h2⟩
theorem fitsV_bool {t : TypeId} {d : D} (hu : P.underlying t = some .bool) (h : FitsV P t d) : ∃ b, d = .bool b := by
  obtain ⟨s, h1⟩ := fits_bool hu (fitsV_one hu rfl h)
  cases h1
  exact ⟨s, rfl⟩
theorem fitsV_sl {t e : TypeId} {d : D} (hu : elemOfD P t = some e) (h : FitsV P t d) : ∃ es, d = .sl es ∧ es.length ≤ maxLen ∧ ∀ x ∈ es, FitsT P e x := by
  have h' : FitsT P t [d] := by
    unfold elemOfD at hu
    cases hk : P.underlying t with
    | none => rw [hk] at hu; cases hu
    | some u =>
      rw [hk] at hu
      cases u <;> first | (cases hu; done) | exact fitsV_one hk rfl h
  obtain ⟨es, h1, h2⟩ := fits_sl hu h'
  cases h1
  exact ⟨es, rfl, h2⟩

theorem cell_value {r : Reach} {b0 : Nat} {t : TypeId} {v : Value} {u : TypeDesc} (hu : P.underlying t = some u) (ha : descAgg u = false) (hp : (match P.underlying t with | some .bool | some (.int _) | some .string | some (.slice _) => true | _ => false) = true) (hval : Value.okWide P w r b0 t v) : v.cells = #[v] := by
  unfold Value.okWide at hval
  rw [hu] at hval hp
  cases u <;> simp only [descAgg] at ha <;> (try cases ha) <;> simp only [] at hp <;> (try cases hp)
  all_goals
    simp only [Cell.okWide, hu] at hval
    cases v <;> first | rfl | (simp [Cell.ok, hu] at hval)

theorem read_arg {r : Reach} {b0 : Nat} (hlo : laidOutB P = true) (hp : plainOk P L = true) {t : TypeId} {v : Value} {d : DataW H} {ps : List MemPlace} (hT : L.contains t = true) (hval : Value.okWide P w r b0 t v) (h : DataW.Trod enc P w 0 sp held t v d ps) :
    ∃ x, FitsV P t x ∧ V (RW w) w v x := by
  obtain ⟨n, hn⟩ := h
  obtain ⟨h1, h2, h3⟩ := read_trod hlo hp n t _ _ hT hn
  have hrow := List.all_eq_true.1 hp t (by simpa using hT)
  simp only [Bool.and_eq_true, decide_eq_true_eq] at hrow
  obtain ⟨_, hrow⟩ := hrow
  cases hu : P.underlying t with
  | none => rw [hu] at hrow; cases hrow
  | some u =>
    cases ha : descAgg u with
    | true =>
      have hv : ∃ cs : Array Value, v = .agg cs := by
        unfold Value.okWide at hval
        rw [hu] at hval
        cases u <;> simp only [descAgg] at ha <;> (try cases ha)
        · obtain ⟨cs, hv, _⟩ := hval; exact ⟨cs, hv⟩
        · obtain ⟨cs, hv, _⟩ := hval; exact ⟨cs, hv⟩
      obtain ⟨cs, rfl⟩ := hv
      refine ⟨.agg (flat d), by simp only [FitsV, hu, ha, if_true]; exact ⟨_, rfl, h2⟩, .agg _ _ (by simpa [Value.cells] using h1.symm) (fun i x hx => (h3 i x hx).1) (fun i x hx => ?_)⟩
      have := (h3 i x hx).2
      simpa [Value.cells, List.getD, Array.getD_eq_getD_getElem?] using this
    | false =>
      have hc : v.cells = #[v] := by
        refine cell_value hu ha ?_ hval
        rw [hu] at hrow ⊢
        cases u <;> simp only [descAgg] at ha <;> (try cases ha) <;> first | rfl | (simp at hrow)
      rw [hc] at h1 h3
      simp at h1
      obtain ⟨x, hx⟩ : ∃ x, flat d = [x] := List.length_eq_one_iff.1 h1
      simp only [hx] at h2 h3
      refine ⟨x, by simp only [FitsV, hu, ha]; exact h2, ?_⟩
      simpa using (h3 0 x rfl).2

theorem read_all {r : Reach} {b0 : Nat} (hlo : laidOutB P = true) (hp : plainOk P L = true) : ∀ {ts : List TypeId} {vs : List Value} {ds : List (DataW H)} {ps : List MemPlace}, (∀ t ∈ ts, L.contains t = true) → (∀ (j : Nat) t v, ts[j]? = some t → vs[j]? = some v → Value.okWide P w r b0 t v) →
    DataW.TrodAll enc P w 0 sp held ts vs ds ps → ∃ xs, FitsAll P ts xs ∧ vs.length = xs.length ∧ ∀ (i : Nat) (d : D), xs[i]? = some d → V (RW w) w (vs.getD i undef) d
  | [], _, _, _, _, _, h => by
    obtain ⟨rfl, rfl, rfl⟩ := trodAll_nil h
    exact ⟨[], trivial, rfl, by simp⟩
  | t :: ts, _, _, _, hT, hv, h => by
    obtain ⟨v, vs1, d, ds1, a, b, rfl, rfl, rfl, h1, h2⟩ := trodAll_cons h
    obtain ⟨x, q1, q2⟩ := read_arg hlo hp (hT t (.head _)) (hv 0 t v rfl rfl) h1
    obtain ⟨xs, q3, q4, q5⟩ := read_all hlo hp (fun t ht => hT t (.tail _ ht)) (fun j t v a b => hv (j + 1) t v a b) h2
    refine ⟨x :: xs, ⟨q1, q3⟩, by simp [q4], fun i d hi => ?_⟩
    cases i with
    | zero => simp at hi; subst hi; simpa using q2
    | succ i => simp at hi; simpa using q5 i d hi

theorem trodAll_carry {w' : World} {base : Nat} : ∀ {ts : List TypeId} {vs : List Value} {ds : List (DataW H)} {ps : List MemPlace}, DataW.TrodAll enc P w base sp held ts vs ds ps → (∀ p ∈ ps, w.sameAt w' p) → DataW.TrodAll enc P w' base sp held ts vs ds ps
  | [], [], [], _, h, _ => h
  | _ :: _, _ :: _, _ :: _, _, ⟨p, q, ⟨n, hn⟩, h2, e⟩, hs => ⟨p, q, ⟨n, DataW.trod_carry n _ _ _ hn fun x hx => hs x (by rw [e]; exact List.mem_append_left _ hx)⟩, trodAll_carry h2 fun x hx => hs x (by rw [e]; exact List.mem_append_right _ hx), e⟩

theorem trodAll_len {base : Nat} : ∀ {ts : List TypeId} {vs : List Value} {ds : List (DataW H)} {ps : List MemPlace}, DataW.TrodAll enc P w base sp held ts vs ds ps → ds.length = ts.length
  | [], [], [], _, _ => rfl
  | _ :: _, _ :: _, _ :: _, _, ⟨_, _, _, h, _⟩ => by simp [trodAll_len h]
/-- What the row asks behind the call, where nothing that was there has turned. -/
theorem post_kept {f : Func} {s : ChangeSpec} {apart fresh handsOn again : Bool} {W W' : World} {args : Array Value} {v : Value} {ds gs : List (DataW H)} {before : List MemPlace}
    (hW : DataW.Whole enc P f.params.toList s.vars apart W args.toList ds gs before) (hst : Below W.heap.size W W')
    (hres : ∀ (b : Nat) (sp : Nat → Bool) (hd : Bool), DataW.TrodAll enc P W' b sp hd f.resultTypes.toList (v.resultList f.resultTypes.size) (s.fn H (ds ++ gs)).results [])
    (hargs : ∀ sp : Nat → Bool, (∀ p ∈ before, sp p.block = true) → DataW.TrodAll enc P W' 0 sp true f.params.toList args.toList (s.fn H (ds ++ gs)).args before)
    (hvars : ∀ sp : Nat → Bool, (∀ p ∈ before, sp p.block = true) → DataW.TrodVars enc P W' sp s.vars (s.fn H (ds ++ gs)).vars [])
    (hok : ∀ (j : Nat) (t : TypeId) (r : Value), f.resultTypes[j]? = some t → (v.resultList f.resultTypes.size)[j]? = some r → Value.okWide P W' .any 0 t r) :
    s.post enc P f apart fresh handsOn again W args v W' := by
  have hlt := hW.lt
  have hold : ∀ p ∈ before, (fun b => decide (b < W.heap.size)) p.block = true := fun p hp => by simpa using hlt p hp
  refine ⟨ds, gs, before, [], before, [], hW, hres _ _ _, hargs _ hold, hvars _ hold, World.keptBut_mono (fun p hp => ⟨hp, ?_⟩) (hst.frame (· ∈ before)), fun _ => ?_⟩
  · exact Or.inr (by simpa using hp)
  · obtain ⟨_, _, _, _, _, hz, hn⟩ := hW
    refine ⟨hok, _, _, ([] ++ before) ++ [], ⟨[] ++ before, [], trodAll_append (hargs _ (fun _ _ => rfl)) (hres _ _ _), hvars _ (fun _ _ => rfl), rfl, ?_, ?_⟩, ?_⟩
    · intro b off hp
      have hp' : MemPlace.cell b off ∈ before := by simpa using hp
      rw [hst.frozen (hlt _ hp')]
      exact hz b off hp'
    · intro ha
      simpa using hn ha
    · intro p hp _
      simpa using hp

/-- FROM A CONTRACT ON DATA TO THE ROW: a law that answers true and leaves what was there as it was. -/
theorem law_of_cs {G : GT} {f : FuncId} {fn : Func} {s : ChangeSpec} {apart fresh handsOn again : Bool} {tb : TypeId} {r : Reach} {b0 : Nat}
    (hlo : laidOutB P = true) (hmr : mapsRowed P = true) (hsf : ((List.range P.types.size).all fun t => match P.underlying t with | some (.slice e) => decide (0 < P.cellsOf e) | _ => true) = true)
    (hp : plainOk P L = true) {ts : List TypeId} (hts : fn.params.toList = ts) (hT : (ts.all fun t => L.contains t) = true) (hvars : s.vars = []) (hres : fn.resultTypes = #[tb]) (htb : P.underlying tb = some .bool)
    (hs : ∀ ds : List (DataW H), ds.length = ts.length → s.fn H ds = { results := [.lit (.bool true)], args := ds })
    (hcs : ∀ xs, FitsAll P ts xs → CS P G f xs (.d (.bool true)) none)
    {W : World} {args : Array Value} {ds gs : List (DataW H)} {before : List MemPlace} (hval : ∀ (j : Nat) t v, fn.params[j]? = some t → args[j]? = some v → Value.okWide P W r b0 t v)
    (hW : DataW.Whole enc P fn.params.toList s.vars apart W args.toList ds gs before) (hG : Glob G (From W.heap.size) (RW W) W) :
    Calls P f args W fun e W' => ∃ v, e = .returned v ∧ s.post enc P fn apart fresh handsOn again W args v W' := by
  have hW' := hW
  obtain ⟨p, q, hA, hV, rfl, hfz, hnd⟩ := hW
  rw [hvars] at hV
  obtain ⟨rfl, rfl⟩ := trodVars_none hV
  rw [hts] at hA
  have hTm : ∀ t ∈ ts, L.contains t = true := List.all_eq_true.1 hT
  obtain ⟨xs, q1, q2, q3⟩ := read_all hlo hp hTm (fun j t v a b => hval j t v (by rw [← Array.getElem?_toList, hts]; exact a) (by rw [← Array.getElem?_toList]; exact b)) hA
  refine (hcs xs q1 W (RW W) args hG (fun _ _ h => h) (by simpa using q2) (fun i d hi => by simpa [List.getD, Array.getD_eq_getD_getElem?] using q3 i d hi)).mono fun e W' ⟨v, R', he, htv, hst, _, _⟩ => ?_
  have hv : v = .bool true := by
    have := htv (fun _ => 0)
    cases this with
    | d _ _ h => cases h; rfl
  subst he hv
  have hlen := trodAll_len hA
  have hlt : ∀ x ∈ p ++ [], x.block < W.heap.size := hW'.lt
  refine ⟨_, rfl, post_kept hW' hst.below.below (fun _ _ _ => ?_) (fun sp' hsp => ?_) (fun _ _ => ?_) ?_⟩
  · rw [List.append_nil, hs ds hlen, hres]
    exact trodAll_cons_mk (shut_bool htb _) trodAll_mk0
  · rw [List.append_nil, List.append_nil, hs ds hlen, hts]
    have h1 := trodAll_carry (w' := W') hA fun x hx => hst.below.below.same (hlt x (by simpa using hx))
    refine h1.respare (kids_rows hlo hmr) (fun t e ht hu => slices_full_of P hsf t e ht hu) (fun t ht => ?_) (fun x hx => hsp x (by simpa using hx))
    have hrow := List.all_eq_true.1 hp t (by simpa using hTm t ht)
    simp only [Bool.and_eq_true, decide_eq_true_eq] at hrow
    exact hrow.1
  · rw [List.append_nil, hs ds hlen, hvars]
    rfl
  · exact ok_one hres rfl (okWide_bool_mk htb _)

theorem laidVars_mem {W : World} : ∀ {laid : List (String × DataW Unit)} {ps : List MemPlace}, DataW.LaidVars P W laid ps → ∀ (n : String) (d : DataW Unit), (n, d) ∈ laid →
    ∃ g t cs fuel p, P.globalNamed n = some g ∧ (P.globals[g]?).map (·.type) = some t ∧ W.var? P n = some cs ∧ DataW.trod (fun _ => ()) P W 0 (fun _ => true) false fuel t cs.toList = some (d, p)
  | [], _, _, n, d, hm => by cases hm
  | (n', d') :: r, _, ⟨g, t, cs, fuel, p, q, h1, h2, h3, h4, h5, _⟩, n, d, hm => by
    rcases List.mem_cons.1 hm with he | hm
    · cases he; exact ⟨g, t, cs, fuel, p, h1, h2, h3, h4⟩
    · exact laidVars_mem h5 n d hm
theorem laidMetH_plain {laid : List (String × DataW Unit)} {W : World} (hh : (laid.filter fun x => x.2.handleName?.isSome).isEmpty = true) (h : laidMetH P laid W) : laidMet P laid W := by
  unfold laidMetH at h
  rw [List.isEmpty_iff.1 hh] at h
  exact h
theorem laidMetH_of {laid : List (String × DataW Unit)} {W : World} (hh : (laid.filter fun x => x.2.handleName?.isSome).isEmpty = true) (h : laidMet P laid W) : laidMetH P laid W := by
  unfold laidMetH
  rw [List.isEmpty_iff.1 hh]
  exact h
/-- A listed variable's cells read as its datum says. -/
theorem laid_run {laid : List (String × DataW Unit)} {W : World} (hlo : laidOutB P = true) (hp : plainOk P L = true) (hh : (laid.filter fun x => x.2.handleName?.isSome).isEmpty = true) (h : laidMetH P laid W)
    {n : String} {d : DataW Unit} {g : Nat} {t : TypeId} (hm : (n, d) ∈ laid) (hg : P.globalNamed n = some g) (ht : (P.globals[g]?).map (·.type) = some t) (hL : L.contains t = true) :
    Run (RW W) W g 0 (flat d) ∧ g < W.heap.size ∧ ∃ arr T fr, W.heap[g]? = some (.cells arr T fr) ∧ arr.size = (flat d).length := by
  obtain ⟨ps, hl, _⟩ := laidMetH_plain hh h
  obtain ⟨g', t', cs, fuel, p, h1, h2, h3, h4⟩ := laidVars_mem hl n d hm
  rw [hg] at h1
  cases h1
  rw [ht] at h2
  cases h2
  obtain ⟨q1, _, q3⟩ := read_trod hlo hp fuel t _ _ hL h4
  simp only [Array.length_toList] at q1
  have hblk : ∃ T fr, W.heap[g]? = some (.cells cs T fr) := by
    unfold World.var? at h3
    rw [hg] at h3
    simp only [Option.bind_some] at h3
    split at h3
    · rename_i T fr hb
      cases h3
      exact ⟨T, fr, hb⟩
    · cases h3
  obtain ⟨T, fr, hb⟩ := hblk
  refine ⟨fun j x hj => ?_, (Array.getElem?_eq_some_iff.1 hb).1, cs, T, fr, hb, q1.symm⟩
  obtain ⟨p1, p2⟩ := q3 j x hj
  have hjl : j < cs.size := by
    have := (List.getElem?_eq_some_iff.1 hj).1
    rw [q1] at this
    exact this
  have hcell : W.cell? ⟨g, 0 + j, none⟩ = some (cs[j]'hjl) := by
    unfold World.cell?
    simp only [hb]
    simp [hjl]
  refine ⟨p1, cell_lt hcell, _, hcell, ?_⟩
  have : cs.toList.getD j undef = cs[j] := by simp [List.getD, hjl]
  rwa [this] at p2
end
end Go.VM

set_option linter.unusedVariables false
set_option linter.unusedSimpArgs false
set_option linter.unusedSectionVars false
namespace Go.VM
open Go Go.RowKit

section
variable {P : Program} {G : GT} {st : St}

theorem SW.seq {x y : Code} {Q : Exit → St → Prop} (h : SW P G x st fun e s => match e with
    | .normal => SW P G y s Q
    | e => Q e s) : SW P G (.seq x y) st Q := fun base R μ a w hr => wp_seq (wp_mono (h base R μ a w hr) fun e a1 w1 ⟨s, R1, μ1, q1, q2, q3⟩ => by
      cases e with
      | normal => exact wp_mono (q1 base R1 μ1 a1 w1 q2) fun e2 a2 w2 ⟨s2, R2, μ2, p1, p2, p3⟩ => ⟨s2, R2, μ2, p1, p2, q3.trans p3⟩
      | _ => exact ⟨s, R1, μ1, q1, q2, q3⟩)
theorem SW.cond {c : Operand} {x y : Code} {Q : Exit → St → Prop} {t : Bool} (hc : st.eval G c = .d (.bool t)) (h : SW P G (if t then x else y) st Q) : SW P G (.cond c x y) st Q := fun base R μ a w hr => by
  refine wp_cond (hr.evalBool hc) ?_
  cases t
  · exact h base R μ a w hr
  · exact h base R μ a w hr
theorem SW.block {id : Nat} {c : Code} {Q : Exit → St → Prop} (h : SW P G c st fun e s => match e with
    | .exit id' => if id' = id then Q .normal s else Q (.exit id') s
    | e => Q e s) : SW P G (.block id c) st Q := fun base R μ a w hr => wp_block (wp_mono (h base R μ a w hr) fun e a1 w1 ⟨s, R1, μ1, q1, q2, q3⟩ => by
      cases e with
      | exit id' =>
        simp only [Exit.inBlock]
        simp only at q1
        by_cases hid : id' = id
        · rw [if_pos hid] at q1 ⊢; exact ⟨s, R1, μ1, q1, q2, q3⟩
        · rw [if_neg hid] at q1 ⊢; exact ⟨s, R1, μ1, q1, q2, q3⟩
      | _ => exact ⟨s, R1, μ1, q1, q2, q3⟩)

theorem SW.scope {c : Code} {Q : Exit → St → Prop} (h : SW P G c st fun e s => match e with
    | .goto _ => False
    | e => Q e s) : SW P G (.scope c) st Q := fun base R μ a w hr => wp_scope_straight (wp_mono (h base R μ a w hr) fun e a1 w1 ⟨s, R1, μ1, q1, q2, q3⟩ => by
      cases e with
      | goto l => exact q1.elim
      | _ => exact ⟨s, R1, μ1, q1, q2, q3⟩)

/-- A loop, unrolled a given number of times. -/
def SRounds (P : Program) (G : GT) (c : Code) (Q : Exit → St → Prop) : Nat → St → Prop
  | 0, _ => False
  | n + 1, st => SW P G c st fun e s => match e with
    | .normal => SRounds P G c Q n s
    | e => Q e s
theorem SW.rounds {c : Code} {Q : Exit → St → Prop} (n : Nat) (h : SRounds P G c Q n st) : SW P G (.loop c) st Q := fun base R μ a w hr => by
  refine wp_loop_rounds n ?_
  induction n generalizing st R μ a w with
  | zero => exact h.elim
  | succ n ih =>
    refine wp_mono (h base R μ a w hr) fun e a1 w1 ⟨s, R1, μ1, q1, q2, q3⟩ => ?_
    cases e with
    | normal =>
      have := ih q1 R1 μ1 a1 w1 q2
      -- what is reached from the later state is reached from the first
      refine rounds_mono n ?_ this
      rintro e2 a2 w2 ⟨s2, R2, μ2, p1, p2, p3⟩
      exact ⟨s2, R2, μ2, p1, p2, q3.trans p3⟩
    | _ => exact ⟨s, R1, μ1, q1, q2, q3⟩
where rounds_mono {P : Program} {c : Code} {Q Q' : Exit → Act → World → Prop} : ∀ (n : Nat) {a : Act} {w : World}, (∀ e a w, Q e a w → Q' e a w) → Code.rounds P c Q n a w → Code.rounds P c Q' n a w
  | 0, _, _, _, h => h.elim
  | n + 1, a, w, hq, h => by
    refine wp_mono h fun e a1 w1 q => ?_
    cases e with
    | normal => exact rounds_mono n hq q
    | _ => exact hq _ _ _ q
end

section
variable {P : Program} {G : GT}
theorem CS.of_SW {f : FuncId} {fn : Func} {c : Code} {ds : List D} {r : DV} {own : Option TypeId} (hf : P.funcs[f]? = some fn) (hb : fn.body = some c)
    (h : SW P G c (initSt ds fn.ntmps) fun e s => (e = .normal ∨ e = .ret) ∧ vres P s fn.results.toList = some r ∧ vown s fn.results.toList = own) : CS P G f ds r own := by
  intro w R args hg hR hl hv
  refine calls_of_wp hf hb ?_
  have hrel := Rel.init (P := P) (G := G) fn hg hR hl hv
  refine wp_mono (h (From w.heap.size) R _ _ w hrel) fun e a' w' ⟨s, R', μ', ⟨he, hres, hown⟩, hr', hs⟩ => ?_
  obtain ⟨v, hv1, hv2⟩ := vres_ok hr' hres
  have hpost : a'.defers = [] ∧ ∃ v, (results fn a'.tmps).run P w' = .ok v w' ∧ ∃ v' R', Ending.returned v = .returned v' ∧ (∀ μ, TV R' μ w' v' r) ∧ Step (From w.heap.size) R w R' w' ∧ (∀ b o, R' b o → b < w'.heap.size) ∧ (∀ e, own = some e → OwnSl P (From w.heap.size) R' w' e v') :=
    ⟨hr'.defers, v, hv1, v, R', rfl, fun μ => hv2 μ, hs, hr'.rset, fun e he' => by
      rw [he'] at hown
      exact vown_ok hr' hown hv1⟩
  rcases he with rfl | rfl
  · exact hpost
  · exact hpost
end
end Go.VM
