/- Joined texts. Predicates are read from tokens, plain: what is read, and that the number of steps does not matter. Reading predicates, plain: the number of steps does not matter; behind an implication's right side no further one is read. How predicates are printed, as bytes and as tokens, plain: one printer for both. Predicates are read back from their tokens, plain. Predicates are read back from their tokens, plain: all forms. The text of a predicate is divided into its tokens, plain. Predicates are read back from their tokens, plain: the theorem. No condition. -/
import Derived.Test.YtlglfkdjlbcpjaaGreatDoorZL
import Derived.Test.YtlglfkdjlbcpjaaGreatDoorZ8
import Derived.Test.YtlglfkdjlbcpjaaGreatDoorZ4
section
set_option linter.unusedVariables false
set_option linter.unusedSimpArgs false
set_option linter.unusedSectionVars false
namespace Go.Proofs.YtlglfkdjlbcpjaaGreatDoor
set_option maxRecDepth 100000
set_option maxHeartbeats 4000000
def sgB (l : List Tok) (i : Nat) (s : List UInt8) : Bool := match l[i]? with
  | some t => decide (t.kind = 4) && decide (t.text = s)
  | none => false
def kdB (l : List Tok) (i : Nat) (k : Int) : Bool := match l[i]? with
  | some t => decide (t.kind = k)
  | none => false
def wtB (l : List Tok) (i : Nat) : Bool := kdB l i 1 || kdB l i 2
def txA (l : List Tok) (i : Nat) : List UInt8 := ((l[i]?).map (·.text)).getD []
def nmA (l : List Tok) (i : Nat) : Int := ((l[i]?).map (·.n)).getD 0
def tw (op : Int) (a b : Pr) : Pr := ⟨op, [], 0, [a, b]⟩
/-- The parts of a name behind its first one. -/
def partsN (l : List Tok) : Nat → Nat → List UInt8 → List UInt8 × Nat
  | 0, i, s => (s, i)
  | f + 1, i, s =>
    if sgB l i [46] = true then
      if wtB l (i + 1) = true then partsN l f (i + 2) (s ++ [46] ++ txA l (i + 1))
      else if kdB l (i + 1) 3 = true then
        if wtB l (i + 2) = true then partsN l f (i + 3) (s ++ [46] ++ txA l (i + 1) ++ txA l (i + 2)) else partsN l f (i + 2) (s ++ [46] ++ txA l (i + 1))
      else (s, i)
    else (s, i)
/-- The operations of a level with their signs. -/
def opL : Nat → List (Int × List UInt8)
  | 1 => [(18, [60, 61, 62])]
  | 3 => [(16, [124, 124])]
  | 4 => [(15, [38, 38])]
  | 7 => [(6, [43]), (7, [45])]
  | 8 => [(8, [42])]
  | _ => []
def opAt (l : List Tok) (n k : Nat) : Option Int := ((opL k).find? fun p => sgB l n p.2).map (·.1)
/-- Comparisons, and whether their kids are exchanged. -/
def cmpL : List (List UInt8 × Int × Bool) := [([61], 10, false), ([33, 61], 11, false), ([60], 12, false), ([62], 12, true), ([60, 61], 13, false), ([62, 61], 13, true)]
def cmpAt (l : List Tok) (n : Nat) : Option (Int × Bool) := (cmpL.find? fun p => sgB l n p.1).map (·.2)
section
variable (kw : List UInt8 → Bool) (rd : Nat → Nat → Option (Pr × Nat)) (l : List Tok)
def nmOk (i : Nat) : Bool := wtB l i && (!kw (txA l i) || decide (txA l i = [118]) || decide (txA l i = [116, 97, 103]) || decide (txA l i = [118, 97, 108]))
def nameR (i : Nat) : Option (List UInt8 × Nat) := if nmOk kw l i = true then some (partsN l l.length (i + 1) (txA l i)) else none
def chainG (k : Nat) : Nat → Pr → Nat → Pr × Nat
  | 0, a, n => (a, n)
  | g + 1, a, n => match opAt l n k with
    | none => (a, n)
    | some op => match rd (n + 1) (k + 1) with
      | none => (a, n)
      | some (b, m) => chainG k g (tw op a b) m
def argsG : Nat → Nat → List Pr → Option (List Pr × Nat)
  | 0, _, _ => none
  | g + 1, i, acc => match rd (i + 1) 1 with
    | none => none
    | some (p, n) => if sgB l n [41] = true then some (acc ++ [p], n + 1) else if sgB l n [44] = true then argsG g n (acc ++ [p]) else none
def listG (i : Nat) : Option (List Pr × Nat) := if sgB l i [40] = true then argsG rd l l.length i [] else none
def primG (i : Nat) : Option (Pr × Nat) := match l[i]? with
  | none => none
  | some t =>
    if t.kind = 3 then some (⟨1, [], t.n, []⟩, i + 1)
    else if t.kind = 1 ∧ t.text = [116, 114, 117, 101] then some (⟨2, [], 1, []⟩, i + 1)
    else if t.kind = 1 ∧ t.text = [102, 97, 108, 115, 101] then some (⟨2, [], 0, []⟩, i + 1)
    else if sgB l i [63] = true then (match nameR kw l (i + 1) with
      | none => none
      | some (s, n) => (listG rd l n).map fun q => (⟨5, s, 0, q.1⟩, q.2))
    else if sgB l i [40] = true then
      if sgB l (i + 1) [45] = true ∧ kdB l (i + 2) 3 = true ∧ sgB l (i + 3) [41] = true then some (⟨1, [], IntKind.i64.wrap (-nmA l (i + 2)), []⟩, i + 4)
      else (match rd (i + 1) 1 with
        | none => none
        | some (p, n) => if sgB l n [41] = true then some (p, n + 1) else none)
    else (match nameR kw l i with
      | none => none
      | some (s, n) => (match listG rd l n with
        | some (ks, m) => some (⟨4, s, 0, ks⟩, m)
        | none => some (⟨3, s, 0, []⟩, n)))
def cmpG (i : Nat) : Option (Pr × Nat) := match rd i 7 with
  | none => none
  | some (a, n) => (match cmpAt l n with
    | none => some (a, n)
    | some (op, ex) => (match rd (n + 1) 7 with
      | none => some (a, n)
      | some (b, m) => some (if ex = true then tw op b a else tw op a b, m)))
def impG (i : Nat) : Option (Pr × Nat) := match rd i 3 with
  | none => none
  | some (a, n) => if sgB l n [61, 62] = true then (match rd (n + 1) 2 with
    | some (b, m) => some (tw 17 a b, m)
    | none => some (a, n)) else some (a, n)
/-- One step of reading at a level. -/
def atG (i k : Nat) : Option (Pr × Nat) :=
  match k with
  | 2 => impG rd l i
  | 5 => if sgB l i [33] = true then (rd (i + 1) 5).map fun q => (⟨14, [], 0, [q.1]⟩, q.2) else rd i 6
  | 6 => cmpG rd l i
  | 9 => if sgB l i [45] = true then (rd (i + 1) 9).map fun q => (⟨9, [], 0, [q.1]⟩, q.2) else rd i 10
  | 10 => primG kw rd l i
  | k => (rd i (k + 1)).map fun q => chainG rd l k l.length q.1 q.2
end
/-- Reading at a level in so many steps. -/
def atF (kw : List UInt8 → Bool) (l : List Tok) : Nat → Nat → Nat → Option (Pr × Nat)
  | 0, _, _ => none
  | f + 1, i, k => atG kw (atF kw l f) l i k
/-! ### Reading goes on -/
theorem sgB_lt {l : List Tok} {i : Nat} {s : List UInt8} (h : sgB l i s = true) : i < l.length := by
  unfold sgB at h
  split at h
  · rename_i t ht
    exact (List.getElem?_eq_some_iff.1 ht).1
  · cases h
theorem kdB_lt {l : List Tok} {i : Nat} {k : Int} (h : kdB l i k = true) : i < l.length := by
  unfold kdB at h
  split at h
  · rename_i t ht
    exact (List.getElem?_eq_some_iff.1 ht).1
  · cases h
theorem wtB_lt {l : List Tok} {i : Nat} (h : wtB l i = true) : i < l.length := by
  unfold wtB at h
  rw [Bool.or_eq_true] at h
  rcases h with h | h <;> exact kdB_lt h
theorem parts_adv {l : List Tok} : ∀ (f i : Nat) (s : List UInt8), i ≤ l.length → i ≤ (partsN l f i s).2 ∧ (partsN l f i s).2 ≤ l.length
  | 0, i, s, h => ⟨Nat.le_refl _, h⟩
  | f + 1, i, s, h => by
    rw [partsN]
    split
    · rename_i h1
      have := sgB_lt h1
      split
      · rename_i h2
        have := wtB_lt h2
        have := parts_adv (l := l) f (i + 2) (s ++ [46] ++ txA l (i + 1)) (by omega)
        omega
      · split
        · rename_i h3
          have := kdB_lt h3
          split
          · rename_i h4
            have := wtB_lt h4
            have := parts_adv (l := l) f (i + 3) (s ++ [46] ++ txA l (i + 1) ++ txA l (i + 2)) (by omega)
            omega
          · have := parts_adv (l := l) f (i + 2) (s ++ [46] ++ txA l (i + 1)) (by omega)
            omega
        · exact ⟨Nat.le_refl _, h⟩
    · exact ⟨Nat.le_refl _, h⟩
theorem name_adv {kw : List UInt8 → Bool} {l : List Tok} {i n : Nat} {s : List UInt8} (h : nameR kw l i = some (s, n)) : i < n ∧ n ≤ l.length := by
  unfold nameR at h
  split at h
  · rename_i hb
    unfold nmOk at hb
    rw [Bool.and_eq_true] at hb
    have h1 := wtB_lt hb.1
    have h2 := parts_adv (l := l) l.length (i + 1) (txA l i) (by omega)
    rw [Option.some.injEq] at h
    rw [h] at h2
    simp only at h2
    omega
  · cases h
/-- What is read goes on, and not beyond the end. -/
def Adv (l : List Tok) (rd : Nat → Nat → Option (Pr × Nat)) : Prop := ∀ i k p n, rd i k = some (p, n) → i < n ∧ n ≤ l.length
section
variable {kw : List UInt8 → Bool} {rd rd' : Nat → Nat → Option (Pr × Nat)} {l : List Tok}
theorem chain_adv (h : Adv l rd) (k : Nat) : ∀ (g : Nat) (a : Pr) (n : Nat), n ≤ l.length → n ≤ (chainG rd l k g a n).2 ∧ (chainG rd l k g a n).2 ≤ l.length
  | 0, a, n, hn => ⟨Nat.le_refl _, hn⟩
  | g + 1, a, n, hn => by
    rw [chainG]
    split
    · exact ⟨Nat.le_refl _, hn⟩
    · split
      · exact ⟨Nat.le_refl _, hn⟩
      · rename_i op _ _ b m hr
        have h1 := h _ _ _ _ hr
        have h2 := chain_adv h k g (tw op a b) m h1.2
        omega
theorem args_adv (h : Adv l rd) : ∀ (g i : Nat) (acc ks : List Pr) (m : Nat), argsG rd l g i acc = some (ks, m) → i < m ∧ m ≤ l.length
  | 0, _, _, _, _, hr => by cases hr
  | g + 1, i, acc, ks, m, hr => by
    rw [argsG] at hr
    split at hr
    · cases hr
    · rename_i p n hp
      have h1 := h _ _ _ _ hp
      split at hr
      · rename_i hs
        have := sgB_lt hs
        cases hr
        omega
      · split at hr
        · have := args_adv h g n _ ks m hr
          omega
        · cases hr
theorem list_adv (h : Adv l rd) {i m : Nat} {ks : List Pr} (hr : listG rd l i = some (ks, m)) : i < m ∧ m ≤ l.length := by
  unfold listG at hr
  split at hr
  · exact args_adv h _ _ _ _ _ hr
  · cases hr
theorem prim_adv (h : Adv l rd) {i n : Nat} {p : Pr} (hr : primG kw rd l i = some (p, n)) : i < n ∧ n ≤ l.length := by
  unfold primG at hr
  split at hr
  · cases hr
  · rename_i t ht
    have hil := (List.getElem?_eq_some_iff.1 ht).1
    split at hr
    · cases hr; omega
    split at hr
    · cases hr; omega
    split at hr
    · cases hr; omega
    split at hr
    · split at hr
      · cases hr
      · rename_i s m hn
        have h1 := name_adv hn
        rw [Option.map_eq_some_iff] at hr
        obtain ⟨⟨ks, q⟩, hq, he⟩ := hr
        have h2 := list_adv h hq
        cases he
        simp only at *
        omega
    split at hr
    · split at hr
      · rename_i hc
        have := sgB_lt hc.2.2
        cases hr
        omega
      · split at hr
        · cases hr
        · rename_i q m hq
          have h1 := h _ _ _ _ hq
          split at hr
          · rename_i hs
            have := sgB_lt hs
            cases hr
            omega
          · cases hr
    · split at hr
      · cases hr
      · rename_i s m hn
        have h1 := name_adv hn
        split at hr
        · rename_i ks q hq
          have h2 := list_adv h hq
          cases hr
          omega
        · cases hr
          omega
theorem at_adv (h : Adv l rd) {i k n : Nat} {p : Pr} (hr : atG kw rd l i k = some (p, n)) : i < n ∧ n ≤ l.length := by
  unfold atG at hr
  split at hr
  · unfold impG at hr
    split at hr
    · cases hr
    · rename_i a m ha
      have h1 := h _ _ _ _ ha
      split at hr
      · split at hr
        · rename_i b q hb
          have h2 := h _ _ _ _ hb
          cases hr
          omega
        · cases hr
          exact h1
      · cases hr
        exact h1
  · split at hr
    · rw [Option.map_eq_some_iff] at hr
      obtain ⟨⟨a, m⟩, ha, he⟩ := hr
      have h1 := h _ _ _ _ ha
      cases he
      simp only
      omega
    · exact h _ _ _ _ hr
  · unfold cmpG at hr
    split at hr
    · cases hr
    · rename_i a m ha
      have h1 := h _ _ _ _ ha
      split at hr
      · cases hr
        exact h1
      · split at hr
        · cases hr
          exact h1
        · rename_i b q hb
          have h2 := h _ _ _ _ hb
          cases hr
          omega
  · split at hr
    · rw [Option.map_eq_some_iff] at hr
      obtain ⟨⟨a, m⟩, ha, he⟩ := hr
      have h1 := h _ _ _ _ ha
      cases he
      simp only
      omega
    · exact h _ _ _ _ hr
  · exact prim_adv h hr
  · rw [Option.map_eq_some_iff] at hr
    obtain ⟨⟨a, m⟩, ha, he⟩ := hr
    have h1 := h _ _ _ _ ha
    have h2 := chain_adv (k := k) h l.length a m h1.2
    have h3 : (chainG rd l k l.length a m).2 = n := by rw [he]
    omega
end
theorem atF_adv (kw : List UInt8 → Bool) (l : List Tok) : ∀ f, Adv l (atF kw l f)
  | 0 => fun _ _ _ _ h => by cases h
  | f + 1 => fun _ _ _ _ h => at_adv (atF_adv kw l f) h
end Go.Proofs.YtlglfkdjlbcpjaaGreatDoor
end

section
set_option linter.unusedVariables false
set_option linter.unusedSimpArgs false
set_option linter.unusedSectionVars false
namespace Go.Proofs.YtlglfkdjlbcpjaaGreatDoor
set_option maxRecDepth 100000
set_option maxHeartbeats 4000000
theorem opAt_some {l : List Tok} {n k : Nat} {op : Int} (h : opAt l n k = some op) : n < l.length ∧ 1 ≤ k ∧ k ≤ 8 := by
  unfold opAt at h
  rw [Option.map_eq_some_iff] at h
  obtain ⟨p, hp, _⟩ := h
  have hs : sgB l n p.2 = true := List.find?_some (p := fun p : Int × List UInt8 => sgB l n p.2) hp
  refine ⟨sgB_lt hs, ?_⟩
  have hm := List.mem_of_find?_eq_some hp
  unfold opL at hm
  split at hm <;> first | omega | cases hm
theorem cmpAt_some {l : List Tok} {n : Nat} {q : Int × Bool} (h : cmpAt l n = some q) : n < l.length := by
  unfold cmpAt at h
  rw [Option.map_eq_some_iff] at h
  obtain ⟨p, hp, _⟩ := h
  have hs : sgB l n p.1 = true := List.find?_some (p := fun p : List UInt8 × Int × Bool => sgB l n p.1) hp
  exact sgB_lt hs
section
variable {kw : List UInt8 → Bool} {rd rd' : Nat → Nat → Option (Pr × Nat)} {l : List Tok}
theorem chain_congr (hA : Adv l rd) {i k : Nat} (h : ∀ i' k', 1 ≤ k' → k' ≤ 10 → i < i' → i' ≤ l.length → rd i' k' = rd' i' k') : ∀ (g : Nat) (a : Pr) (n : Nat), i ≤ n → chainG rd l k g a n = chainG rd' l k g a n
  | 0, _, _, _ => rfl
  | g + 1, a, n, hn => by
    rw [chainG, chainG]
    cases ho : opAt l n k with
    | none => rfl
    | some op =>
      obtain ⟨h1, h2, h3⟩ := opAt_some ho
      rw [← h (n + 1) (k + 1) (by omega) (by omega) (by omega) (by omega)]
      cases hr : rd (n + 1) (k + 1) with
      | none => rfl
      | some q =>
        obtain ⟨b, m⟩ := q
        have := hA _ _ _ _ hr
        exact chain_congr hA h g _ m (by omega)
theorem args_congr (hA : Adv l rd) {i : Nat} (h : ∀ i' k', 1 ≤ k' → k' ≤ 10 → i < i' → i' ≤ l.length → rd i' k' = rd' i' k') : ∀ (g n : Nat) (acc : List Pr), i ≤ n → n < l.length → argsG rd l g n acc = argsG rd' l g n acc
  | 0, _, _, _, _ => rfl
  | g + 1, n, acc, hn, hl => by
    rw [argsG, argsG, ← h (n + 1) 1 (by omega) (by omega) (by omega) (by omega)]
    cases hr : rd (n + 1) 1 with
    | none => rfl
    | some q =>
      obtain ⟨p, m⟩ := q
      have := hA _ _ _ _ hr
      simp only
      split
      · rfl
      · split
        · rename_i hs
          exact args_congr hA h g m _ (by omega) (sgB_lt hs)
        · rfl
theorem list_congr (hA : Adv l rd) {i n : Nat} (h : ∀ i' k', 1 ≤ k' → k' ≤ 10 → i < i' → i' ≤ l.length → rd i' k' = rd' i' k') (hn : i ≤ n) : listG rd l n = listG rd' l n := by
  unfold listG
  split
  · rename_i hs
    exact args_congr hA h _ _ _ hn (sgB_lt hs)
  · rfl
theorem prim_congr (hA : Adv l rd) {i : Nat} (h : ∀ i' k', 1 ≤ k' → k' ≤ 10 → i < i' → i' ≤ l.length → rd i' k' = rd' i' k') : primG kw rd l i = primG kw rd' l i := by
  unfold primG
  cases ht : l[i]? with
  | none => rfl
  | some t =>
    simp only
    split
    · rfl
    split
    · rfl
    split
    · rfl
    split
    · cases hn : nameR kw l (i + 1) with
      | none => rfl
      | some q =>
        have := name_adv (s := q.1) (n := q.2) hn
        simp only
        rw [list_congr hA h (by omega)]
    split
    · rename_i hs
      have := sgB_lt hs
      split
      · rfl
      · rw [h (i + 1) 1 (by omega) (by omega) (by omega) (by omega)]
    · cases hn : nameR kw l i with
      | none => rfl
      | some q =>
        have := name_adv (s := q.1) (n := q.2) hn
        simp only
        rw [list_congr hA h (by omega)]
theorem at_congr (hA : Adv l rd) {i k : Nat} (hk : 1 ≤ k ∧ k ≤ 10) (h : ∀ i' k', 1 ≤ k' → k' ≤ 10 → i < i' → i' ≤ l.length → rd i' k' = rd' i' k') (h0 : ∀ k', k < k' → k' ≤ 10 → rd i k' = rd' i k') : atG kw rd l i k = atG kw rd' l i k := by
  unfold atG
  split
  · unfold impG
    rw [← h0 3 (by omega) (by omega)]
    cases hr : rd i 3 with
    | none => rfl
    | some q =>
      obtain ⟨a, n⟩ := q
      have := hA _ _ _ _ hr
      simp only
      split
      · rename_i hs
        have := sgB_lt hs
        rw [h (n + 1) 2 (by omega) (by omega) (by omega) (by omega)]
      · rfl
  · split
    · rename_i hs
      have := sgB_lt hs
      rw [h (i + 1) 5 (by omega) (by omega) (by omega) (by omega)]
    · exact h0 6 (by omega) (by omega)
  · unfold cmpG
    rw [← h0 7 (by omega) (by omega)]
    cases hr : rd i 7 with
    | none => rfl
    | some q =>
      obtain ⟨a, n⟩ := q
      have := hA _ _ _ _ hr
      simp only
      cases hc : cmpAt l n with
      | none => rfl
      | some c =>
        have := cmpAt_some hc
        simp only
        rw [h (n + 1) 7 (by omega) (by omega) (by omega) (by omega)]
  · split
    · rename_i hs
      have := sgB_lt hs
      rw [h (i + 1) 9 (by omega) (by omega) (by omega) (by omega)]
    · exact h0 10 (by omega) (by omega)
  · exact prim_congr hA h
  · rename_i hx2 hx5 hx6 hx9 hx10
    have hne : k ≠ 10 := fun e => hx10 e
    rw [← h0 (k + 1) (by omega) (by omega)]
    cases hr : rd i (k + 1) with
    | none => rfl
    | some q =>
      obtain ⟨a, n⟩ := q
      have := hA _ _ _ _ hr
      simp only [Option.map_some]
      rw [chain_congr hA h l.length a n (by omega)]
end
/-- How many steps are enough. -/
def mu (L i k : Nat) : Nat := (L + 1 - i) * 12 + (11 - k)
theorem mu_next {L i i' k k' : Nat} (hi : i < i') (hl : i' ≤ L) (hk : 1 ≤ k') (hk2 : k ≤ 10) : mu L i' k' < mu L i k := by
  unfold mu
  omega
theorem mu_level {L i k k' : Nat} (h : k < k') (hk : k' ≤ 10) : mu L i k' < mu L i k := by
  unfold mu
  omega
theorem atF_same (kw : List UInt8 → Bool) (l : List Tok) : ∀ (f f' i k : Nat), 1 ≤ k → k ≤ 10 → i ≤ l.length → mu l.length i k ≤ f → mu l.length i k ≤ f' → atF kw l f i k = atF kw l f' i k
  | 0, _, i, k, _, h2, hi, h, _ => by unfold mu at h; omega
  | _ + 1, 0, i, k, _, h2, hi, _, h => by unfold mu at h; omega
  | f + 1, f' + 1, i, k, h1, h2, hi, h, h' => by
    rw [atF, atF]
    exact at_congr (atF_adv kw l f) ⟨h1, h2⟩ (fun i' k' q1 q2 q3 q4 => by
      have := mu_next (k := k) q3 q4 q1 h2
      exact atF_same kw l f f' i' k' q1 q2 q4 (by omega) (by omega)) (fun k' q1 q2 => by
      have := mu_level (L := l.length) (i := i) q1 q2
      exact atF_same kw l f f' i k' (by omega) q2 hi (by omega) (by omega))
theorem imp_end (kw : List UInt8 → Bool) (l : List Tok) : ∀ (f f' i : Nat) (p : Pr) (m : Nat), i ≤ l.length → mu l.length i 2 ≤ f → atF kw l f i 2 = some (p, m) → sgB l m [61, 62] = true → mu l.length (m + 1) 2 ≤ f' → atF kw l f' (m + 1) 2 = none
  | 0, _, _, _, _, _, _, h, _, _ => by cases h
  | f + 1, f', i, p, m, hi, hf, h, hs, hf' => by
    have h0 : impG (atF kw l f) l i = some (p, m) := h
    unfold impG at h0
    split at h0
    · cases h0
    · rename_i a n ha
      have hA := atF_adv kw l f _ _ _ _ ha
      split at h0
      · rename_i hs1
        have hl := sgB_lt hs1
        have hm1 := mu_next (L := l.length) (i := i) (i' := n + 1) (k := 2) (k' := 2) (by omega) (by omega) (by omega) (by omega)
        split at h0
        · rename_i b q hb
          cases h0
          exact imp_end kw l f f' (n + 1) b m (by omega) (by omega) hb hs hf'
        · rename_i hb
          cases h0
          rw [← hb]
          exact atF_same kw l f' f (m + 1) 2 (by omega) (by omega) (by omega) hf' (by omega)
      · rename_i hs1
        cases h0
        exact absurd hs hs1
end Go.Proofs.YtlglfkdjlbcpjaaGreatDoor
end

section
set_option linter.unusedVariables false
set_option linter.unusedSimpArgs false
set_option linter.unusedSectionVars false
namespace Go.Proofs.YtlglfkdjlbcpjaaGreatDoor
set_option maxRecDepth 100000
set_option maxHeartbeats 4000000
/-- The form of an operation with two kids: its level, those of its kids, its sign. -/
def frN (op : Int) : Option (Nat × Nat × Nat × List UInt8) :=
  if op = 18 then some (1, 1, 2, [60, 61, 62]) else if op = 17 then some (2, 3, 2, [61, 62]) else if op = 16 then some (3, 3, 4, [124, 124]) else if op = 15 then some (4, 4, 5, [38, 38])
  else if op = 10 then some (6, 7, 7, [61]) else if op = 11 then some (6, 7, 7, [33, 61]) else if op = 12 then some (6, 7, 7, [60]) else if op = 13 then some (6, 7, 7, [60, 61])
  else if op = 6 then some (7, 7, 8, [43]) else if op = 7 then some (7, 7, 8, [45]) else if op = 8 then some (8, 8, 9, [42]) else none
def levN (op : Int) : Nat := if op = 14 then 5 else if op = 9 then 9 else match frN op with
  | some q => q.1
  | none => 10
theorem frN_cases {op : Int} {q : Nat × Nat × Nat × List UInt8} (h : frN op = some q) : (op = 18 ∧ q = (1, 1, 2, [60, 61, 62])) ∨ (op = 17 ∧ q = (2, 3, 2, [61, 62])) ∨ (op = 16 ∧ q = (3, 3, 4, [124, 124])) ∨ (op = 15 ∧ q = (4, 4, 5, [38, 38]))
    ∨ (op = 10 ∧ q = (6, 7, 7, [61])) ∨ (op = 11 ∧ q = (6, 7, 7, [33, 61])) ∨ (op = 12 ∧ q = (6, 7, 7, [60])) ∨ (op = 13 ∧ q = (6, 7, 7, [60, 61])) ∨ (op = 6 ∧ q = (7, 7, 8, [43])) ∨ (op = 7 ∧ q = (7, 7, 8, [45])) ∨ (op = 8 ∧ q = (8, 8, 9, [42])) := by
  unfold frN at h
  split at h
  · rename_i e; cases h; exact .inl ⟨e, rfl⟩
  split at h
  · rename_i e; cases h; exact .inr (.inl ⟨e, rfl⟩)
  split at h
  · rename_i e; cases h; exact .inr (.inr (.inl ⟨e, rfl⟩))
  split at h
  · rename_i e; cases h; exact .inr (.inr (.inr (.inl ⟨e, rfl⟩)))
  split at h
  · rename_i e; cases h; exact .inr (.inr (.inr (.inr (.inl ⟨e, rfl⟩))))
  split at h
  · rename_i e; cases h; exact .inr (.inr (.inr (.inr (.inr (.inl ⟨e, rfl⟩)))))
  split at h
  · rename_i e; cases h; exact .inr (.inr (.inr (.inr (.inr (.inr (.inl ⟨e, rfl⟩))))))
  split at h
  · rename_i e; cases h; exact .inr (.inr (.inr (.inr (.inr (.inr (.inr (.inl ⟨e, rfl⟩)))))))
  split at h
  · rename_i e; cases h; exact .inr (.inr (.inr (.inr (.inr (.inr (.inr (.inr (.inl ⟨e, rfl⟩))))))))
  split at h
  · rename_i e; cases h; exact .inr (.inr (.inr (.inr (.inr (.inr (.inr (.inr (.inr (.inl ⟨e, rfl⟩)))))))))
  split at h
  · rename_i e; cases h; exact .inr (.inr (.inr (.inr (.inr (.inr (.inr (.inr (.inr (.inr ⟨e, rfl⟩)))))))))
  cases h
theorem levN_le (op : Int) : 1 ≤ levN op ∧ levN op ≤ 10 := by
  unfold levN
  split
  · omega
  split
  · omega
  cases h : frN op with
  | none => simp
  | some q =>
    rcases frN_cases h with ⟨rfl, rfl⟩ | ⟨rfl, rfl⟩ | ⟨rfl, rfl⟩ | ⟨rfl, rfl⟩ | ⟨rfl, rfl⟩ | ⟨rfl, rfl⟩ | ⟨rfl, rfl⟩ | ⟨rfl, rfl⟩ | ⟨rfl, rfl⟩ | ⟨rfl, rfl⟩ | ⟨rfl, rfl⟩ <;> simp
/-- What is printed into. -/
structure Out (α : Type) where
  sg : List UInt8 → List α
  nm : List UInt8 → List α
  nu : Nat → List α
  bo : Bool → List α
  sp : List α
section
variable {α : Type} (o : Out α)
def commas : List (List α) → List α
  | [] => []
  | [x] => x
  | x :: y :: r => x ++ (o.sg [44] ++ (o.sp ++ commas (y :: r)))
def listO (fs : List (Nat → List α)) : List α := o.sg [40] ++ (commas o (fs.map fun f => f 1) ++ o.sg [41])
def atK (fs : List (Nat → List α)) (i k : Nat) : List α := match fs[i]? with
  | some f => f k
  | none => []
def bodyO (op : Int) (nm : List UInt8) (n : Int) (fs : List (Nat → List α)) : List α :=
  match frN op with
  | some (_, l, r, s) => atK fs 0 l ++ (o.sp ++ (o.sg s ++ (o.sp ++ atK fs 1 r)))
  | none =>
    if op = 1 then (if n < 0 then o.sg [40] ++ (o.sg [45] ++ (o.nu n.natAbs ++ o.sg [41])) else o.nu n.natAbs)
    else if op = 2 then o.bo (decide (n = 1))
    else if op = 3 then o.nm nm
    else if op = 4 then o.nm nm ++ listO o fs
    else if op = 5 then o.sg [63] ++ (o.nm nm ++ listO o fs)
    else if op = 14 then o.sg [33] ++ atK fs 0 5
    else o.sg [45] ++ atK fs 0 9
def wrapO (b : Bool) (x : List α) : List α := if b = true then o.sg [40] ++ (x ++ o.sg [41]) else x
mutual
def prtO : Pr → Nat → List α
  | ⟨op, nm, n, ks⟩, least => wrapO o (decide (levN op < least)) (bodyO o op nm n (prtsO ks))
def prtsO : List Pr → List (Nat → List α)
  | [] => []
  | k :: r => prtO k :: prtsO r
end
theorem prtsO_map : ∀ ks : List Pr, prtsO o ks = ks.map (prtO o)
  | [] => rfl
  | k :: r => by rw [prtsO, prtsO_map r]; rfl
def bdO (p : Pr) : List α := bodyO o p.op p.name p.n (p.kids.map (prtO o))
theorem prtO_eq (p : Pr) (k : Nat) : prtO o p k = wrapO o (decide (levN p.op < k)) (bdO o p) := by
  obtain ⟨op, nm, n, ks⟩ := p
  rw [prtO, prtsO_map]
  rfl
theorem prtO_lo {p : Pr} {k : Nat} (h : k ≤ levN p.op) : prtO o p k = bdO o p := by
  rw [prtO_eq, wrapO, if_neg (by simp; omega)]
theorem prtO_hi {p : Pr} {k : Nat} (h : levN p.op < k) : prtO o p k = o.sg [40] ++ (bdO o p ++ o.sg [41]) := by
  rw [prtO_eq, wrapO, if_pos (by simpa using h)]
theorem bdO_two {p a b : Pr} {lv l r : Nat} {s : List UInt8} (hf : frN p.op = some (lv, l, r, s)) (hk : p.kids = [a, b]) : bdO o p = prtO o a l ++ (o.sp ++ (o.sg s ++ (o.sp ++ prtO o b r))) := by
  unfold bdO bodyO
  rw [hf, hk]
  rfl
end
/-! ### Names -/
/-- A word or a title. -/
def wtTk (ln : Int) (q : List UInt8) : Tok := ⟨match q with
  | c :: _ => if smU c then 1 else 2
  | [] => 2, q, 0, ln⟩
def sgTk (ln : Int) (s : List UInt8) : Tok := ⟨4, s, 0, ln⟩
def digH (q : List UInt8) : Bool := match q with
  | c :: _ => dgU c
  | [] => false
section
variable (val : List UInt8 → Int) (ln : Int)
/-- The tokens of a part of a name behind its first one. -/
def partTk (q : List UInt8) : List Tok := if digH q = true then ⟨3, q.takeWhile dgU, val (q.takeWhile dgU), ln⟩ :: (if q.dropWhile dgU = [] then [] else [wtTk ln (q.dropWhile dgU)]) else [wtTk ln q]
def restTk (ps : List (List UInt8)) : List Tok := ps.flatMap fun q => sgTk ln [46] :: partTk val ln q
def nameTk (s : List UInt8) : List Tok := match partsL s with
  | [] => []
  | p :: ps => wtTk ln p :: restTk val ln ps
end
def joinP (ps : List (List UInt8)) : List UInt8 := ps.flatMap fun q => 46 :: q
theorem partsL_join : ∀ s p ps, partsL s = p :: ps → p ++ joinP ps = s
  | [], p, ps, h => by
    rw [partsL] at h
    cases h
    rfl
  | c :: r, p, ps, h => by
    rw [partsL] at h
    split at h
    · rename_i hc
      have : c = 46 := UInt8.toNat_inj.1 hc
      subst this
      cases h
      cases hr : partsL r with
      | nil => rw [partsL_cut] at hr; cases hr
      | cons q qs =>
        have := partsL_join r q qs hr
        simp only [joinP, List.flatMap_cons, List.nil_append] at this ⊢
        rw [← this]
        rfl
    · cases hr : partsL r with
      | nil => rw [partsL_cut] at hr; cases hr
      | cons q qs =>
        have := partsL_join r q qs hr
        rw [hr] at h
        cases h
        rw [← this]
        rfl
/-- The tokens that are printed, on a line. -/
def outK (val : List UInt8 → Int) (dig : Nat → List UInt8) (ln : Int) : Out Tok := ⟨fun s => [sgTk ln s], nameTk val ln, fun n => [⟨3, dig n, n, ln⟩], fun b => [wtTk ln (if b = true then [116, 114, 117, 101] else [102, 97, 108, 115, 101])], []⟩
theorem outK_sg {val : List UInt8 → Int} {dig : Nat → List UInt8} {ln : Int} (s : List UInt8) : (outK val dig ln).sg s = [sgTk ln s] := rfl
theorem outK_sp {val : List UInt8 → Int} {dig : Nat → List UInt8} {ln : Int} : (outK val dig ln).sp = [] := rfl
/-- The bytes that are printed. -/
def outT (dig : Nat → List UInt8) : Out UInt8 := ⟨fun s => s, fun s => s, dig, fun b => if b = true then [116, 114, 117, 101] else [102, 97, 108, 115, 101], [32]⟩
theorem outT_sg {dig : Nat → List UInt8} (s : List UInt8) : (outT dig).sg s = s := rfl
theorem outT_sp {dig : Nat → List UInt8} : (outT dig).sp = [32] := rfl
end Go.Proofs.YtlglfkdjlbcpjaaGreatDoor
end

section
set_option linter.unusedVariables false
set_option linter.unusedSimpArgs false
set_option linter.unusedSectionVars false
namespace Go.Proofs.YtlglfkdjlbcpjaaGreatDoor
set_option maxRecDepth 100000
set_option maxHeartbeats 4000000
/-- Reading, with as many steps as are enough. -/
def RR (kw : List UInt8 → Bool) (l : List Tok) (i k : Nat) : Option (Pr × Nat) := atF kw l (mu l.length i k) i k
theorem RR_adv (kw : List UInt8 → Bool) (l : List Tok) : Adv l (RR kw l) := fun i k p n h => atF_adv kw l _ i k p n h
theorem RR_eq {kw : List UInt8 → Bool} {l : List Tok} {i k : Nat} (h1 : 1 ≤ k) (h2 : k ≤ 10) (hi : i ≤ l.length) : RR kw l i k = atG kw (RR kw l) l i k := by
  obtain ⟨f, hf⟩ : ∃ f, mu l.length i k = f + 1 := ⟨mu l.length i k - 1, by unfold mu; omega⟩
  have h : RR kw l i k = atG kw (atF kw l f) l i k := by unfold RR; rw [hf, atF]
  rw [h]
  refine at_congr (atF_adv kw l f) ⟨h1, h2⟩ (fun i' k' q1 q2 q3 q4 => ?_) (fun k' q1 q2 => ?_)
  · have := mu_next (k := k) q3 q4 q1 h2
    exact atF_same kw l f _ i' k' q1 q2 q4 (by omega) (Nat.le_refl _)
  · have := mu_level (L := l.length) (i := i) q1 q2
    exact atF_same kw l f _ i k' (by omega) q2 hi (by omega) (Nat.le_refl _)
/-! ### Tokens at a place -/
theorem drop_get {α : Type} {l : List α} {i : Nat} {t : α} {r : List α} (h : l.drop i = t :: r) : l[i]? = some t ∧ l.drop (i + 1) = r ∧ i < l.length := by
  have hi : i < l.length := by
    refine Nat.lt_of_not_le fun hle => ?_
    rw [List.drop_eq_nil_of_le hle] at h
    cases h
  rw [List.drop_eq_getElem_cons hi] at h
  cases h
  exact ⟨List.getElem?_eq_getElem hi, rfl, hi⟩
theorem drop_app {α : Type} {l : List α} {i : Nat} {a r : List α} (h : l.drop i = a ++ r) : l.drop (i + a.length) = r := by
  rw [← List.drop_drop, h, List.drop_left]
theorem drop_le {α : Type} {l : List α} {i : Nat} {a r : List α} (h : l.drop i = a ++ r) (hi : i ≤ l.length) : i + a.length ≤ l.length := by
  have := congrArg List.length h
  simp only [List.length_drop, List.length_append] at this
  omega
theorem get_head {α : Type} {l : List α} {i : Nat} {r : List α} (h : l.drop i = r) : l[i]? = r.head? := by
  subst h
  rw [List.head?_drop]
section
variable {l : List Tok} {i : Nat} {t : Tok} {r : List Tok}
theorem sg_d (h : l.drop i = t :: r) (s : List UInt8) : sgB l i s = (decide (t.kind = 4) && decide (t.text = s)) := by unfold sgB; rw [(drop_get h).1]
theorem kd_d (h : l.drop i = t :: r) (k : Int) : kdB l i k = decide (t.kind = k) := by unfold kdB; rw [(drop_get h).1]
theorem wt_d (h : l.drop i = t :: r) : wtB l i = (decide (t.kind = 1) || decide (t.kind = 2)) := by unfold wtB; rw [kd_d h, kd_d h]
theorem tx_d (h : l.drop i = t :: r) : txA l i = t.text := by unfold txA; rw [(drop_get h).1]; rfl
theorem nm_d (h : l.drop i = t :: r) : nmA l i = t.n := by unfold nmA; rw [(drop_get h).1]; rfl
end
/-! ### What may stand behind -/
/-- The level of a sign. -/
def lvS (s : List UInt8) : Nat := if s = [60, 61, 62] then 1 else if s = [61, 62] then 2 else if s = [124, 124] then 3 else if s = [38, 38] then 4
  else if s = [61] ∨ s = [33, 61] ∨ s = [60] ∨ s = [62] ∨ s = [60, 61] ∨ s = [62, 61] then 6 else if s = [43] ∨ s = [45] then 7 else if s = [42] then 8 else 0
def Stp (k : Nat) (rest : List Tok) : Prop := ∀ t, rest.head? = some t → t.kind = 0 ∨ (t.kind = 4 ∧ t.text ≠ [46] ∧ t.text ≠ [40] ∧ lvS t.text < k)
theorem Stp.mono {k k' : Nat} {rest : List Tok} (h : Stp k rest) (hk : k ≤ k') : Stp k' rest := fun t ht => by
  rcases h t ht with h | ⟨h1, h2, h3, h4⟩
  · exact .inl h
  · exact .inr ⟨h1, h2, h3, by omega⟩
theorem Stp.sg {k : Nat} {ln : Int} {s : List UInt8} {r : List Tok} (h1 : s ≠ [46]) (h2 : s ≠ [40]) (h3 : lvS s < k) : Stp k (sgTk ln s :: r) := fun t ht => by
  cases ht
  exact .inr ⟨rfl, h1, h2, h3⟩
section
variable {l rest : List Tok} {n k : Nat}
theorem Stp.sgB_lv (h : Stp k rest) (hd : l.drop n = rest) {s : List UInt8} (hs : sgB l n s = true) : s ≠ [46] ∧ s ≠ [40] ∧ lvS s < k := by
  unfold sgB at hs
  rw [get_head hd] at hs
  cases hr : rest.head? with
  | none => rw [hr] at hs; cases hs
  | some t =>
    rw [hr] at hs
    simp only [Bool.and_eq_true, decide_eq_true_eq] at hs
    obtain ⟨h4, rfl⟩ := hs
    rcases h t hr with h | ⟨_, h⟩
    · omega
    · exact h
theorem Stp.kd (h : Stp k rest) (hd : l.drop n = rest) {j : Int} (h0 : j ≠ 0) (h4 : j ≠ 4) : kdB l n j = false := by
  unfold kdB
  rw [get_head hd]
  cases hr : rest.head? with
  | none => rfl
  | some t =>
    simp only [decide_eq_false_iff_not]
    rintro rfl
    rcases h t hr with h | ⟨h, _⟩
    · exact h0 h
    · exact h4 h
theorem Stp.wt (h : Stp k rest) (hd : l.drop n = rest) : wtB l n = false := by
  unfold wtB
  rw [h.kd hd (by decide) (by decide), h.kd hd (by decide) (by decide)]
  rfl
theorem Stp.dot (h : Stp k rest) (hd : l.drop n = rest) : sgB l n [46] = false := by
  cases hs : sgB l n [46] with
  | false => rfl
  | true => exact absurd rfl (h.sgB_lv hd hs).1
theorem Stp.par (h : Stp k rest) (hd : l.drop n = rest) : sgB l n [40] = false := by
  cases hs : sgB l n [40] with
  | false => rfl
  | true => exact absurd rfl (h.sgB_lv hd hs).2.1
theorem opL_lv (j : Nat) : ∀ p ∈ opL j, lvS p.2 = j := by
  unfold opL
  split <;> simp [lvS]
theorem cmpL_lv : ∀ p ∈ cmpL, lvS p.1 = 6 := by simp [cmpL, lvS]
theorem Stp.op {j : Nat} (h : Stp k rest) (hd : l.drop n = rest) (hk : k ≤ j) : opAt l n j = none := by
  unfold opAt
  rw [Option.map_eq_none_iff, List.find?_eq_none]
  intro p hp hs
  have h1 := (h.sgB_lv hd hs).2.2
  have h2 := opL_lv j p hp
  omega
theorem Stp.cmp (h : Stp k rest) (hd : l.drop n = rest) (hk : k ≤ 6) : cmpAt l n = none := by
  unfold cmpAt
  rw [Option.map_eq_none_iff, List.find?_eq_none]
  intro p hp hs
  have h1 := (h.sgB_lv hd hs).2.2
  have h2 := cmpL_lv p hp
  omega
theorem Stp.imp (h : Stp k rest) (hd : l.drop n = rest) (hk : k ≤ 2) : sgB l n [61, 62] = false := by
  cases hs : sgB l n [61, 62] with
  | false => rfl
  | true =>
    have h1 := (h.sgB_lv hd hs).2.2
    have h2 : lvS [61, 62] = 2 := rfl
    omega
end
theorem opAt_sg {l : List Tok} {n : Nat} {ln : Int} {s : List UInt8} {r : List Tok} {j : Nat} {op : Int} (h : l.drop n = sgTk ln s :: r) (hs : (opL j).find? (fun p => decide (s = p.2)) = some (op, s)) : opAt l n j = some op := by
  unfold opAt
  have : (fun p : Int × List UInt8 => sgB l n p.2) = fun p => decide (s = p.2) := by
    funext p
    rw [sg_d h]
    simp [sgTk]
    exact decide_eq_decide.2 Iff.rfl
  rw [this, hs]
  rfl
theorem cmpAt_sg {l : List Tok} {n : Nat} {ln : Int} {s : List UInt8} {r : List Tok} {op : Int} {ex : Bool} (h : l.drop n = sgTk ln s :: r) (hs : cmpL.find? (fun p => decide (s = p.1)) = some (s, op, ex)) : cmpAt l n = some (op, ex) := by
  unfold cmpAt
  have : (fun p : List UInt8 × Int × Bool => sgB l n p.1) = fun p => decide (s = p.1) := by
    funext p
    rw [sg_d h]
    simp [sgTk]
    exact decide_eq_decide.2 Iff.rfl
  rw [this, hs]
  rfl
/-! ### Down the levels -/
section
variable {kw : List UInt8 → Bool} {l : List Tok} {i : Nat}
theorem chain_stop {rd : Nat → Nat → Option (Pr × Nat)} {k n : Nat} (h : opAt l n k = none) (g : Nat) (a : Pr) : chainG rd l k g a n = (a, n) := by
  cases g with
  | zero => rfl
  | succ g => rw [chainG, h]
theorem desc1 {k n : Nat} {p : Pr} {rest : List Tok} (hk : 1 ≤ k ∧ k ≤ 9) (h : RR kw l i (k + 1) = some (p, n)) (hd : l.drop n = rest) (hS : Stp k rest) (h5 : k = 5 → sgB l i [33] = false) (h9 : k = 9 → sgB l i [45] = false) : RR kw l i k = some (p, n) := by
  have hadv := RR_adv kw l _ _ _ _ h
  rw [RR_eq hk.1 (by omega) (by omega)]
  have hop : ∀ j, k ≤ j → opAt l n j = none := fun j hj => hS.op hd hj
  obtain rfl | rfl | rfl | rfl | rfl | rfl | rfl | rfl | rfl : k = 1 ∨ k = 2 ∨ k = 3 ∨ k = 4 ∨ k = 5 ∨ k = 6 ∨ k = 7 ∨ k = 8 ∨ k = 9 := by omega
  · show (RR kw l i (1 + 1)).map _ = _
    rw [h, Option.map_some, chain_stop (hop 1 (Nat.le_refl _))]
  · show impG (RR kw l) l i = _
    unfold impG
    rw [h]
    simp only
    rw [if_neg (by rw [hS.imp hd (Nat.le_refl _)]; simp)]
  · show (RR kw l i (3 + 1)).map _ = _
    rw [h, Option.map_some, chain_stop (hop 3 (Nat.le_refl _))]
  · show (RR kw l i (4 + 1)).map _ = _
    rw [h, Option.map_some, chain_stop (hop 4 (Nat.le_refl _))]
  · show (if sgB l i [33] = true then _ else RR kw l i 6) = _
    rw [if_neg (by rw [h5 rfl]; simp)]
    exact h
  · show cmpG (RR kw l) l i = _
    unfold cmpG
    rw [h]
    simp only
    rw [hS.cmp hd (Nat.le_refl _)]
  · show (RR kw l i (7 + 1)).map _ = _
    rw [h, Option.map_some, chain_stop (hop 7 (Nat.le_refl _))]
  · show (RR kw l i (8 + 1)).map _ = _
    rw [h, Option.map_some, chain_stop (hop 8 (Nat.le_refl _))]
  · show (if sgB l i [45] = true then _ else RR kw l i 10) = _
    rw [if_neg (by rw [h9 rfl]; simp)]
    exact h
theorem desc {n : Nat} {p : Pr} {rest : List Tok} (hd : l.drop n = rest) : ∀ (d k j : Nat), d + k = j → 1 ≤ k → j ≤ 10 → RR kw l i j = some (p, n) → Stp k rest → (k ≤ 5 → 5 < j → sgB l i [33] = false) → (k ≤ 9 → 9 < j → sgB l i [45] = false) → RR kw l i k = some (p, n)
  | 0, k, j, e, h1, hj, h, _, _, _ => by
    have : k = j := by omega
    rw [this]
    exact h
  | d + 1, k, j, e, h1, hj, h, hS, h5, h9 => by
    have hr := desc hd d (k + 1) j (by omega) (by omega) hj h (hS.mono (by omega)) (fun q1 q2 => h5 (by omega) q2) (fun q1 q2 => h9 (by omega) q2)
    exact desc1 ⟨h1, by omega⟩ hr hd hS (fun e => h5 (by omega) (by omega)) (fun e => h9 (by omega) (by omega))
end
/-! ### Names -/
/-- What does not go on with a name. -/
def NoNm (rest : List Tok) : Prop := ∀ t, rest.head? = some t → t.kind ≠ 1 ∧ t.kind ≠ 2 ∧ (t.kind = 4 → t.text ≠ [46])
theorem Stp.no {k : Nat} {rest : List Tok} (h : Stp k rest) : NoNm rest := fun t ht => by
  rcases h t ht with e | ⟨e, h1, _⟩
  · exact ⟨by omega, by omega, fun h => by omega⟩
  · exact ⟨by omega, by omega, fun _ => h1⟩
theorem NoNm.wt {l rest : List Tok} {n : Nat} (h : NoNm rest) (hd : l.drop n = rest) : wtB l n = false := by
  unfold wtB kdB
  rw [get_head hd]
  cases hr : rest.head? with
  | none => rfl
  | some t => simp [(h t hr).1, (h t hr).2.1]
theorem NoNm.dot {l rest : List Tok} {n : Nat} (h : NoNm rest) (hd : l.drop n = rest) : sgB l n [46] = false := by
  unfold sgB
  rw [get_head hd]
  cases hr : rest.head? with
  | none => rfl
  | some t =>
    simp only
    by_cases h4 : t.kind = 4
    · simp [(h t hr).2.2 h4]
    · simp [h4]
/-- A part of a name that can be read behind a point. -/
def okPart (q : List UInt8) : Prop := match q with
  | [] => False
  | c :: _ => if dgU c = true then (∀ d r, q.dropWhile dgU = d :: r → smU d = true ∨ caU d = true) else (smU c = true ∨ caU c = true)
theorem wtTk_kind {ln : Int} {q : List UInt8} : (wtTk ln q).kind = 1 ∨ (wtTk ln q).kind = 2 := by
  cases q with
  | nil => exact .inr rfl
  | cons c r =>
    show (if smU c = true then (1 : Int) else 2) = 1 ∨ (if smU c = true then (1 : Int) else 2) = 2
    split
    · exact .inl rfl
    · exact .inr rfl
theorem wtTk_wt {l : List Tok} {i : Nat} {ln : Int} {q : List UInt8} {r : List Tok} (h : l.drop i = wtTk ln q :: r) : wtB l i = true := by
  rw [wt_d h]
  rcases wtTk_kind (ln := ln) (q := q) with e | e <;> simp [e]
theorem takeDrop (q : List UInt8) : q.takeWhile dgU ++ q.dropWhile dgU = q := List.takeWhile_append_dropWhile
section
variable {val : List UInt8 → Int} {ln : Int} {l : List Tok}
theorem restTk_cons (q : List UInt8) (qs : List (List UInt8)) : restTk val ln (q :: qs) = sgTk ln [46] :: (partTk val ln q ++ restTk val ln qs) := by simp [restTk]
/-- What stands behind a part of a name is no word. -/
theorem rest_nowt {qs : List (List UInt8)} {rest : List Tok} {n : Nat} (hS : NoNm rest) (hd : l.drop n = restTk val ln qs ++ rest) : wtB l n = false := by
  cases qs with
  | nil => exact hS.wt (by simpa [restTk] using hd)
  | cons q qs =>
    rw [restTk_cons] at hd
    rw [wt_d hd]
    rfl
theorem parts_read {rest : List Tok} (hS : NoNm rest) : ∀ (qs : List (List UInt8)) (g i : Nat) (s : List UInt8), (∀ q ∈ qs, okPart q) → l.drop i = restTk val ln qs ++ rest → i ≤ l.length → l.length ≤ g + i →
    partsN l g i s = (s ++ joinP qs, i + (restTk val ln qs).length)
  | [], g, i, s, _, hd, _, _ => by
    have : sgB l i [46] = false := hS.dot (by simpa [restTk] using hd)
    cases g with
    | zero => simp [partsN, joinP, restTk]
    | succ g => rw [partsN, if_neg (by simp [this])]; simp [joinP, restTk]
  | q :: qs, g, i, s, hq, hd, hi, hg => by
    rw [restTk_cons, List.cons_append] at hd
    obtain ⟨h0, hd1, hlt⟩ := drop_get hd
    obtain ⟨g, rfl⟩ : ∃ h, g = h + 1 := ⟨g - 1, by omega⟩
    have hok := hq q (.head _)
    have hqs : ∀ q ∈ qs, okPart q := fun q h => hq q (.tail _ h)
    rw [partsN, if_pos (by rw [sg_d hd]; rfl), restTk_cons]
    unfold partTk at hd1 ⊢
    by_cases hdg : digH q = true
    · rw [if_pos hdg] at hd1 ⊢
      rw [List.append_assoc, List.cons_append] at hd1
      obtain ⟨_, hd2, hlt2⟩ := drop_get hd1
      rw [if_neg (by rw [wt_d hd1]; simp), if_pos (by rw [kd_d hd1]; simp), tx_d hd1]
      simp only
      by_cases he : q.dropWhile dgU = []
      · rw [if_pos he] at hd2 ⊢
        rw [if_neg (by rw [rest_nowt hS hd2]; simp), parts_read hS qs g (i + 2) _ hqs hd2 (by omega) (by omega)]
        have ht := takeDrop q
        rw [he, List.append_nil] at ht
        rw [ht]
        simp [joinP]
        omega
      · rw [if_neg he] at hd2 ⊢
        rw [List.cons_append] at hd2
        obtain ⟨_, hd3, hlt3⟩ := drop_get hd2
        rw [if_pos (wtTk_wt hd2), tx_d hd2, parts_read hS qs g (i + 3) _ hqs hd3 (by omega) (by omega)]
        have ht := takeDrop q
        have e : (wtTk ln (q.dropWhile dgU)).text = q.dropWhile dgU := rfl
        rw [e]
        refine Prod.ext ?_ ?_
        · simp only [joinP, List.flatMap_cons]
          conv => rhs; rw [← ht]
          simp
        · simp
          omega
    · rw [if_neg hdg] at hd1 ⊢
      rw [List.append_assoc, List.cons_append] at hd1
      obtain ⟨_, hd2, hlt2⟩ := drop_get hd1
      rw [if_pos (wtTk_wt hd1), tx_d hd1, parts_read hS qs g (i + 2) _ hqs hd2 (by omega) (by omega)]
      refine Prod.ext ?_ ?_
      · simp [joinP, wtTk]
      · simp
        omega
/-- A name that can be read. -/
def okNm (kw : List UInt8 → Bool) (s : List UInt8) : Prop := match partsL s with
  | [] => False
  | p :: ps => (kw p = false ∨ p = [118] ∨ p = [116, 97, 103] ∨ p = [118, 97, 108]) ∧ ∀ q ∈ ps, okPart q
theorem name_read {kw : List UInt8 → Bool} {rest : List Tok} {i : Nat} (hS : NoNm rest) {s : List UInt8} (hs : okNm kw s) (hd : l.drop i = nameTk val ln s ++ rest) : nameR kw l i = some (s, i + (nameTk val ln s).length) := by
  unfold okNm at hs
  unfold nameTk at hd ⊢
  cases hp : partsL s with
  | nil => rw [hp] at hs; exact hs.elim
  | cons p ps =>
    rw [hp] at hs hd
    simp only at hs hd ⊢
    rw [List.cons_append] at hd
    obtain ⟨_, hd1, hlt⟩ := drop_get hd
    unfold nameR nmOk
    have e : (wtTk ln p).text = p := rfl
    rw [wtTk_wt hd, tx_d hd, e, if_pos, parts_read hS ps l.length (i + 1) p hs.2 hd1 hlt (by omega), partsL_join s p ps hp]
    · simp
      omega
    · rcases hs.1 with h | h | h | h <;> simp [h]
end
end Go.Proofs.YtlglfkdjlbcpjaaGreatDoor
end

section
set_option linter.unusedVariables false
set_option linter.unusedSimpArgs false
set_option linter.unusedSectionVars false
namespace Go.Proofs.YtlglfkdjlbcpjaaGreatDoor
set_option maxRecDepth 100000
set_option maxHeartbeats 4000000
/-- A predicate whose text can be read. -/
inductive WfP (N : List UInt8 → Prop) : Pr → Prop
  | int (n : Int) : -1000000000000 ≤ n → n ≤ 1000000000000 → WfP N ⟨1, [], n, []⟩
  | boo (n : Int) : n = 0 ∨ n = 1 → WfP N ⟨2, [], n, []⟩
  | var (s : List UInt8) : N s → WfP N ⟨3, s, 0, []⟩
  | app (s : List UInt8) (ks : List Pr) : N s → ks ≠ [] → (∀ k ∈ ks, WfP N k) → WfP N ⟨4, s, 0, ks⟩
  | hole (s : List UInt8) (ks : List Pr) : N s → ks ≠ [] → (∀ k ∈ ks, WfP N k) → WfP N ⟨5, s, 0, ks⟩
  | neg (a : Pr) : WfP N a → WfP N ⟨9, [], 0, [a]⟩
  | not (a : Pr) : WfP N a → WfP N ⟨14, [], 0, [a]⟩
  | two (op : Int) (lv l r : Nat) (s : List UInt8) (a b : Pr) : frN op = some (lv, l, r, s) → WfP N a → WfP N b → WfP N ⟨op, [], 0, [a, b]⟩
section
variable {kw : List UInt8 → Bool} {val : List UInt8 → Int} {dig : Nat → List UInt8} {ln : Int}
def RdA (kw : List UInt8 → Bool) (x : Out Tok) (p : Pr) : Prop := ∀ (l : List Tok) (i : Nat) (rest : List Tok) (k : Nat), 1 ≤ k → k ≤ levN p.op → l.drop i = bdO x p ++ rest → Stp k rest → RR kw l i k = some (p, i + (bdO x p).length)
def RdS (kw : List UInt8 → Bool) (x : Out Tok) (p : Pr) : Prop := ∀ (l : List Tok) (i : Nat) (rest : List Tok) (k : Nat), (k = 1 ∨ k = 3 ∨ k = 4 ∨ k = 7 ∨ k = 8) → k ≤ levN p.op → l.drop i = bdO x p ++ rest → Stp (k + 1) rest →
  ∃ a m g, RR kw l i (k + 1) = some (a, m) ∧ l.length ≤ g + (i + (bdO x p).length) ∧ chainG (RR kw l) l k l.length a m = chainG (RR kw l) l k g p (i + (bdO x p).length)
def Fst (x : Out Tok) (p : Pr) : Prop := ∃ t r, bdO x p = t :: r ∧ (6 ≤ levN p.op → t.kind = 4 → t.text ≠ [33]) ∧ (levN p.op = 10 → t.kind = 4 → t.text ≠ [45])
def Rd (kw : List UInt8 → Bool) (x : Out Tok) (p : Pr) : Prop := RdA kw x p ∧ RdS kw x p ∧ Fst x p
theorem stp_close {k : Nat} (hk : 1 ≤ k) (r : List Tok) : Stp k (sgTk ln [41] :: r) := Stp.sg (by decide) (by decide) (by show 0 < k; omega)
theorem stp_comma {k : Nat} (hk : 1 ≤ k) (r : List Tok) : Stp k (sgTk ln [44] :: r) := Stp.sg (by decide) (by decide) (by show 0 < k; omega)
theorem sg_no {l : List Tok} {i : Nat} {t : Tok} {r : List Tok} (h : l.drop i = t :: r) {s : List UInt8} (hs : t.kind = 4 → t.text ≠ s) : sgB l i s = false := by
  rw [sg_d h]
  by_cases h4 : t.kind = 4
  · simp [h4, hs h4]
  · simp [h4]
/-- From its own level down. -/
theorem rdA_down {p : Pr} {l : List Tok} {i k : Nat} {rest : List Tok} (hF : Fst (outK val dig ln) p) (h1 : 1 ≤ k) (hk : k ≤ levN p.op) (hd : l.drop i = bdO (outK val dig ln) p ++ rest) (hS : Stp k rest) (h : RR kw l i (levN p.op) = some (p, i + (bdO (outK val dig ln) p).length)) : RR kw l i k = some (p, i + (bdO (outK val dig ln) p).length) := by
  obtain ⟨t, r, hb, f5, f9⟩ := hF
  have hl := (levN_le p.op).2
  have hd' := drop_app hd
  rw [hb, List.cons_append] at hd
  exact desc hd' (levN p.op - k) k (levN p.op) (by omega) h1 hl h hS (fun _ q => sg_no hd (f5 (by omega))) (fun _ q => sg_no hd (f9 (by omega)))
/-- In parentheses. -/
theorem paren10 {p : Pr} (hA : RdA kw (outK val dig ln) p) {l : List Tok} {i : Nat} {rest : List Tok} (hd : l.drop i = sgTk ln [40] :: (bdO (outK val dig ln) p ++ sgTk ln [41] :: rest)) (hne : ¬ (sgB l (i + 1) [45] = true ∧ kdB l (i + 2) 3 = true ∧ sgB l (i + 3) [41] = true)) : RR kw l i 10 = some (p, i + (bdO (outK val dig ln) p).length + 2) := by
  obtain ⟨h0, hd1, hlt⟩ := drop_get hd
  have hr := hA l (i + 1) _ 1 (Nat.le_refl _) (levN_le _).1 hd1 (stp_close (Nat.le_refl _) _)
  have hc := drop_app hd1
  rw [RR_eq (by omega) (by omega) (by omega)]
  show primG kw (RR kw l) l i = _
  unfold primG
  rw [h0]
  simp only
  rw [if_neg (by simp [sgTk]), if_neg (by simp [sgTk]), if_neg (by simp [sgTk]), if_neg (by rw [sg_d hd]; simp [sgTk]), if_pos (by rw [sg_d hd]; simp [sgTk]), if_neg hne, hr]
  simp only
  rw [if_pos (by rw [sg_d hc]; simp [sgTk])]
  simp
  omega
/-- What stands in parentheses is no negated number, unless it is one. -/
theorem not_special {p : Pr} (hA : RdA kw (outK val dig ln) p) (hp : p.op ≠ 9) {l : List Tok} {i : Nat} {rest : List Tok} (hd : l.drop i = sgTk ln [40] :: (bdO (outK val dig ln) p ++ sgTk ln [41] :: rest)) : ¬ (sgB l (i + 1) [45] = true ∧ kdB l (i + 2) 3 = true ∧ sgB l (i + 3) [41] = true) := by
  rintro ⟨h1, h2, h3⟩
  obtain ⟨h0, hd1, hlt⟩ := drop_get hd
  have hr := hA l (i + 1) _ 1 (Nat.le_refl _) (levN_le _).1 hd1 (stp_close (Nat.le_refl _) _)
  have l1 := sgB_lt h1
  have l2 := kdB_lt h2
  have l3 := sgB_lt h3
  obtain ⟨t, ht⟩ : ∃ t, l[i + 2] = t := ⟨_, rfl⟩
  have e2 : l.drop (i + 2) = t :: l.drop (i + 3) := by rw [← ht]; exact List.drop_eq_getElem_cons l2
  rw [kd_d e2] at h2
  have k3 : t.kind = 3 := by simpa using h2
  obtain ⟨u, hu⟩ : ∃ u, l[i + 3] = u := ⟨_, rfl⟩
  have e3 : l.drop (i + 3) = u :: l.drop (i + 4) := by rw [← hu]; exact List.drop_eq_getElem_cons l3
  rw [sg_d e3] at h3
  simp only [Bool.and_eq_true, decide_eq_true_eq] at h3
  have hS : ∀ k, 1 ≤ k → Stp k (u :: l.drop (i + 4)) := fun k hk t' ht' => by
    cases ht'
    exact .inr ⟨h3.1, by rw [h3.2]; decide, by rw [h3.2]; decide, by rw [h3.2]; show 0 < k; omega⟩
  have q10 : RR kw l (i + 2) 10 = some (⟨1, [], t.n, []⟩, i + 3) := by
    rw [RR_eq (by omega) (by omega) (by omega)]
    show primG kw (RR kw l) l (i + 2) = _
    unfold primG
    rw [(drop_get e2).1]
    simp only
    rw [if_pos k3]
  have q9 : RR kw l (i + 2) 9 = some (⟨1, [], t.n, []⟩, i + 3) := desc1 (by omega) q10 e3 (hS 9 (by omega)) (fun e => by omega) (fun _ => sg_no e2 (fun e => by omega))
  have r9 : RR kw l (i + 1) 9 = some (⟨9, [], 0, [⟨1, [], t.n, []⟩]⟩, i + 3) := by
    rw [RR_eq (by omega) (by omega) (by omega)]
    show (if sgB l (i + 1) [45] = true then (RR kw l (i + 1 + 1) 9).map _ else _) = _
    rw [if_pos h1]
    have : i + 1 + 1 = i + 2 := rfl
    rw [this, q9]
    rfl
  have hno : sgB l (i + 1) [33] = false := by
    obtain ⟨v, hv⟩ : ∃ v, l[i + 1] = v := ⟨_, rfl⟩
    have e1 : l.drop (i + 1) = v :: l.drop (i + 2) := by rw [← hv]; exact List.drop_eq_getElem_cons l1
    rw [sg_d e1] at h1 ⊢
    simp only [Bool.and_eq_true, decide_eq_true_eq] at h1
    simp [h1.2]
  have r1 := desc e3 8 1 9 (by omega) (by omega) (by omega) r9 (hS 1 (by omega)) (fun _ _ => hno) (fun _ q => by omega)
  rw [r1, Option.some.injEq, Prod.mk.injEq] at hr
  rw [← hr.1] at hp
  exact hp rfl
/-- A kid where a level is required. -/
theorem kid_read {p : Pr} (hR : Rd kw (outK val dig ln) p) {l : List Tok} {i k : Nat} {rest : List Tok} (h1 : 1 ≤ k) (h9 : k ≤ 9) (hd : l.drop i = prtO (outK val dig ln) p k ++ rest) (hS : Stp k rest) : RR kw l i k = some (p, i + (prtO (outK val dig ln) p k).length) := by
  obtain ⟨hA, _, hF⟩ := hR
  by_cases hk : k ≤ levN p.op
  · rw [prtO_lo (outK val dig ln) hk] at hd ⊢
    exact hA l i rest k h1 hk hd hS
  · rw [prtO_hi (outK val dig ln) (by omega)] at hd ⊢
    have e : sgTk ln [40] :: (bdO (outK val dig ln) p ++ sgTk ln [41] :: rest) = (outK val dig ln).sg [40] ++ (bdO (outK val dig ln) p ++ (outK val dig ln).sg [41]) ++ rest := by simp [outK_sg]
    rw [← e] at hd
    have hp : p.op ≠ 9 := by
      intro h
      rw [h] at hk
      exact hk h9
    have hr := paren10 hA hd (not_special hA hp hd)
    have hd2 : l.drop (i + (bdO (outK val dig ln) p).length + 2) = rest := by
      have h2 := drop_app (drop_get hd).2.1
      have h3 := (drop_get h2).2.1
      rw [← h3]
      congr 1
      omega
    have := desc hd2 (10 - k) k 10 (by omega) h1 (by omega) hr hS (fun _ _ => sg_no hd (fun _ => by simp [sgTk])) (fun _ _ => sg_no hd (fun _ => by simp [sgTk]))
    rw [this]
    simp [outK_sg]
    omega
/-- A left kid of a chain. -/
theorem kid_chain {p : Pr} (hR : Rd kw (outK val dig ln) p) {l : List Tok} {i k : Nat} {rest : List Tok} (hk : k = 1 ∨ k = 3 ∨ k = 4 ∨ k = 7 ∨ k = 8) (hd : l.drop i = prtO (outK val dig ln) p k ++ rest) (hS : Stp (k + 1) rest) :
    ∃ a m g, RR kw l i (k + 1) = some (a, m) ∧ l.length ≤ g + (i + (prtO (outK val dig ln) p k).length) ∧ chainG (RR kw l) l k l.length a m = chainG (RR kw l) l k g p (i + (prtO (outK val dig ln) p k).length) := by
  by_cases hl : k ≤ levN p.op
  · rw [prtO_lo (outK val dig ln) hl] at hd ⊢
    exact hR.2.1 l i rest k hk hl hd hS
  · have e : prtO (outK val dig ln) p k = prtO (outK val dig ln) p (k + 1) := by rw [prtO_hi (outK val dig ln) (by omega), prtO_hi (outK val dig ln) (by omega)]
    rw [e] at hd ⊢
    exact ⟨p, _, l.length, kid_read hR (by omega) (by omega) hd hS, by omega, rfl⟩
/-! ### Arguments -/
theorem args_read {l : List Tok} {rest : List Tok} : ∀ (ks : List Pr) (g i : Nat) (acc : List Pr), ks ≠ [] → (∀ k ∈ ks, Rd kw (outK val dig ln) k) → l.drop (i + 1) = commas (outK val dig ln) (ks.map fun p => prtO (outK val dig ln) p 1) ++ sgTk ln [41] :: rest → l.length ≤ g + i →
    argsG (RR kw l) l g i acc = some (acc ++ ks, i + 2 + (commas (outK val dig ln) (ks.map fun p => prtO (outK val dig ln) p 1)).length)
  | [], _, _, _, h, _, _, _ => absurd rfl h
  | [k], g, i, acc, _, hk, hd, hg => by
    have hr := kid_read (hk k (.head _)) (Nat.le_refl _) (by omega) (rest := sgTk ln [41] :: rest) (by simpa [commas] using hd) (stp_close (Nat.le_refl _) _)
    have hadv := RR_adv kw l _ _ _ _ hr
    obtain ⟨g, rfl⟩ : ∃ h, g = h + 1 := ⟨g - 1, by omega⟩
    have hc := drop_app hd
    simp only [List.map_cons, List.map_nil, commas] at hc ⊢
    rw [argsG, hr]
    simp only
    rw [if_pos (by rw [sg_d hc]; simp [sgTk])]
    simp
    omega
  | k :: k2 :: ks, g, i, acc, _, hk, hd, hg => by
    have hd' : l.drop (i + 1) = prtO (outK val dig ln) k 1 ++ (sgTk ln [44] :: (commas (outK val dig ln) ((k2 :: ks).map fun p => prtO (outK val dig ln) p 1) ++ sgTk ln [41] :: rest)) := by
      rw [hd]
      simp [commas, outK_sg, outK_sp]
    have hr := kid_read (hk k (.head _)) (Nat.le_refl _) (by omega) hd' (stp_comma (Nat.le_refl _) _)
    have hadv := RR_adv kw l _ _ _ _ hr
    obtain ⟨g, rfl⟩ : ∃ h, g = h + 1 := ⟨g - 1, by omega⟩
    have hc := drop_app hd'
    have ha := args_read (k2 :: ks) g (i + 1 + (prtO (outK val dig ln) k 1).length) (acc ++ [k]) (by simp) (fun x hx => hk x (.tail _ hx)) (drop_get hc).2.1 (by omega)
    rw [argsG, hr]
    simp only
    rw [if_neg (by rw [sg_d hc]; simp [sgTk]), if_pos (by rw [sg_d hc]; simp [sgTk]), ha]
    simp [commas, outK_sg, outK_sp]
    omega
theorem list_read {l : List Tok} {i : Nat} {rest : List Tok} {ks : List Pr} (hne : ks ≠ []) (hk : ∀ k ∈ ks, Rd kw (outK val dig ln) k) (hd : l.drop i = listO (outK val dig ln) (ks.map (prtO (outK val dig ln))) ++ rest) : listG (RR kw l) l i = some (ks, i + (listO (outK val dig ln) (ks.map (prtO (outK val dig ln)))).length) := by
  have e : listO (outK val dig ln) (ks.map (prtO (outK val dig ln))) = sgTk ln [40] :: (commas (outK val dig ln) (ks.map fun p => prtO (outK val dig ln) p 1) ++ [sgTk ln [41]]) := by simp [listO, outK_sg, List.map_map, Function.comp_def]
  rw [e] at hd ⊢
  rw [List.cons_append, List.append_assoc, List.cons_append, List.nil_append] at hd
  obtain ⟨_, hd1, hlt⟩ := drop_get hd
  unfold listG
  rw [if_pos (by rw [sg_d hd]; simp [sgTk]), args_read ks l.length i [] hne hk hd1 (by omega)]
  simp
  omega
end
end Go.Proofs.YtlglfkdjlbcpjaaGreatDoor
end

section
set_option linter.unusedVariables false
set_option linter.unusedSimpArgs false
set_option linter.unusedSectionVars false
namespace Go.Proofs.YtlglfkdjlbcpjaaGreatDoor
set_option maxRecDepth 100000
set_option maxHeartbeats 4000000
def preK (k : List Tok) : Except Int (List Tok) → Except Int (List Tok)
  | .ok l => .ok (k ++ l)
  | .error e => .error e
theorem preK_app (a b : List Tok) (x) : preK a (preK b x) = preK (a ++ b) x := by cases x <;> simp [preK]
theorem preK_nil (x) : preK [] x = x := by cases x <;> rfl
section
variable {num : List UInt8 → Int × Bool} {ln : Int}
/-- A text is divided into these tokens ahead of another. -/
def Lx (num : List UInt8 → Int × Bool) (ln : Int) (t : List UInt8) (k : List Tok) (r : List UInt8) : Prop := lexG num (t ++ r) 0 ln false = preK k (lexG num r 0 ln false)
theorem Lx.app {t u : List UInt8} {k m : List Tok} {r : List UInt8} (h1 : Lx num ln t k (u ++ r)) (h2 : Lx num ln u m r) : Lx num ln (t ++ u) (k ++ m) r := by
  unfold Lx at h1 h2 ⊢
  rw [List.append_assoc, h1, h2, preK_app]
theorem Lx.nil {r : List UInt8} : Lx num ln [] [] r := by
  unfold Lx
  rw [preK_nil]
  rfl
theorem Lx.sp {r : List UInt8} : Lx num ln [32] [] r := by
  unfold Lx
  rw [preK_nil, List.cons_append, List.nil_append, lexG]
  simp
theorem Lx.tok {c : UInt8} {s r : List UInt8} {k n : Int} (hf : firstT num (c :: s ++ r) = (k, c :: s, n, true)) : Lx num ln (c :: s) [⟨k, c :: s, n, ln⟩] r := by
  unfold Lx
  have h0 : (firstT num (c :: (s ++ r))).2.2.2 = true := by
    rw [List.cons_append] at hf
    rw [hf]
  obtain ⟨h1, h2, h3, h4⟩ := first_head h0
  rw [List.cons_append] at hf ⊢
  rw [lexG, if_neg h1, if_neg (by simp [h2, h3]), if_neg h4, if_pos h0, hf]
  simp only [List.length_cons, Nat.add_sub_cancel]
  rw [lexG_drop (s ++ r) s.length ln false (by simp), List.drop_left]
  cases lexG num r 0 ln false <;> rfl
/-- No letter, digit or line below. -/
def NIn (r : List UInt8) : Prop := ∀ b, r.head? = some b → inU b = false
theorem NIn.cons {c : UInt8} {r : List UInt8} (h : inU c = false) : NIn (c :: r) := fun b hb => by
  cases hb
  exact h
theorem NIn.dg {r : List UInt8} (h : NIn r) : ∀ b, r.head? = some b → dgU b = false := fun b hb => by
  cases hd : dgU b with
  | false => rfl
  | true => rw [← h b hb, in_dg hd]
theorem takeWhile_all {p : UInt8 → Bool} : ∀ {s : List UInt8}, (∀ b ∈ s, p b = true) → s.takeWhile p = s
  | [], _ => rfl
  | c :: s, h => by rw [List.takeWhile_cons, if_pos (h c (.head _)), takeWhile_all fun b hb => h b (.tail _ hb)]
theorem Lx.wt {q r : List UInt8} {c : UInt8} {s : List UInt8} (hq : q = c :: s) (hc : smU c = true ∨ caU c = true) (ha : ∀ b ∈ q, inU b = true) (hr : NIn r) : Lx num ln q [wtTk ln q] r := by
  subst hq
  have ht : (c :: (s ++ r)).takeWhile inU = c :: s := by
    have := takeWhile_sep hr (c :: s)
    rw [takeWhile_all ha] at this
    exact this
  have e : wtTk ln (c :: s) = ⟨if smU c then 1 else 2, c :: s, 0, ln⟩ := rfl
  rw [e]
  refine Lx.tok ?_
  rw [List.cons_append]
  unfold firstT
  simp only [ht]
  by_cases h1 : smU c = true
  · simp [h1]
  · have h2 := hc.resolve_left h1
    simp [h1, h2]
theorem dg_no {c : UInt8} (h : dgU c = true) : smU c = false ∧ caU c = false := by
  simp only [dgU, smU, caU, decide_eq_true_eq, decide_eq_false_iff_not] at h ⊢
  omega
theorem Lx.nmb {d r : List UInt8} {c : UInt8} {s : List UInt8} (hd : d = c :: s) (ha : ∀ b ∈ d, dgU b = true) (hr : ∀ b, r.head? = some b → dgU b = false) (hn : (num d).2 = true) : Lx num ln d [⟨3, d, (num d).1, ln⟩] r := by
  subst hd
  have ht : (c :: (s ++ r)).takeWhile dgU = c :: s := by
    have := takeWhile_sep hr (c :: s)
    rw [takeWhile_all ha] at this
    exact this
  refine Lx.tok ?_
  have h3 : dgU c = true := ha c (.head _)
  obtain ⟨h1, h2⟩ := dg_no h3
  rw [List.cons_append]
  unfold firstT
  simp [ht, h1, h2, h3, hn]
theorem Lx.sg {c : UInt8} {s r : List UInt8} (h1 : smU c = false) (h2 : caU c = false) (h3 : dgU c = false) (hs : signT (c :: s ++ r) = c :: s) : Lx num ln (c :: s) [sgTk ln (c :: s)] r := by
  refine Lx.tok ?_
  rw [List.cons_append] at hs ⊢
  unfold firstT
  simp only [h1, h2, h3, hs]
  simp
/-! ### Names -/
/-- A part of a name that is divided as a part. -/
def lxPart (num : List UInt8 → Int × Bool) (q : List UInt8) : Prop := (∀ b ∈ q, inU b = true) ∧ okPart q ∧ (digH q = true → (num (q.takeWhile dgU)).2 = true)
theorem NIn.joinP {r : List UInt8} (h : NIn r) (qs : List (List UInt8)) : NIn (joinP qs ++ r) := by
  cases qs with
  | nil => exact h
  | cons q qs => exact NIn.cons (by decide)
theorem mem_takeWhile {p : UInt8 → Bool} : ∀ {s : List UInt8}, ∀ b ∈ s.takeWhile p, p b = true
  | [], b, h => by cases h
  | c :: s, b, h => by
    rw [List.takeWhile_cons] at h
    split at h
    · rename_i hc
      rcases List.mem_cons.1 h with rfl | h
      · exact hc
      · exact mem_takeWhile b h
    · cases h
theorem lx_part {q r : List UInt8} (h : lxPart num q) (hr : NIn r) : Lx num ln q (partTk (fun d => (num d).1) ln q) r := by
  obtain ⟨ha, ho, hn⟩ := h
  unfold partTk
  by_cases hd : digH q = true
  · rw [if_pos hd]
    cases q with
    | nil => exact ho.elim
    | cons c s =>
      have hc : dgU c = true := hd
      have htd := takeDrop (c :: s)
      have ht : (c :: s).takeWhile dgU = c :: s.takeWhile dgU := takeWhile_head hc
      obtain ⟨w, hw⟩ : ∃ w, (c :: s).dropWhile dgU = w := ⟨_, rfl⟩
      unfold okPart at ho
      simp only at ho
      rw [if_pos hc, hw] at ho
      have hnn := hn hd
      rw [hw] at htd ⊢
      have hsplit : Lx num ln ((c :: s).takeWhile dgU ++ w) ([⟨3, (c :: s).takeWhile dgU, (num ((c :: s).takeWhile dgU)).1, ln⟩] ++ (if w = [] then [] else [wtTk ln w])) r := by
        refine Lx.app (Lx.nmb ht mem_takeWhile (fun b hb => ?_) hnn) ?_
        · cases w with
          | nil => exact hr.dg b hb
          | cons d w =>
            have hbd : d = b := by simpa using hb
            rw [← hbd]
            rcases ho d w rfl with h | h
            · cases hdd : dgU d with
              | false => rfl
              | true => rw [(dg_no hdd).1] at h; cases h
            · cases hdd : dgU d with
              | false => rfl
              | true => rw [(dg_no hdd).2] at h; cases h
        · cases w with
          | nil => exact Lx.nil
          | cons d w =>
            rw [if_neg (by simp)]
            refine Lx.wt rfl (ho d w rfl) (fun b hb => ha b ?_) hr
            rw [← htd]
            exact List.mem_append_right _ hb
      rw [htd] at hsplit
      exact hsplit
  · rw [if_neg hd]
    cases q with
    | nil => exact ho.elim
    | cons c s =>
      unfold okPart at ho
      simp only at ho
      rw [if_neg (by intro h; exact hd h)] at ho
      exact Lx.wt rfl ho ha hr
theorem lx_rest {r : List UInt8} (hr : NIn r) : ∀ qs : List (List UInt8), (∀ q ∈ qs, lxPart num q) → Lx num ln (joinP qs) (restTk (fun d => (num d).1) ln qs) r
  | [], _ => Lx.nil
  | q :: qs, h => by
    have e : joinP (q :: qs) = [46] ++ (q ++ joinP qs) := by simp [joinP]
    have e2 : restTk (fun d => (num d).1) ln (q :: qs) = [sgTk ln [46]] ++ (partTk (fun d => (num d).1) ln q ++ restTk (fun d => (num d).1) ln qs) := by simp [restTk]
    rw [e, e2]
    exact Lx.app (Lx.sg (by decide) (by decide) (by decide) rfl) (Lx.app (lx_part (h q (.head _)) (hr.joinP qs)) (lx_rest hr qs fun x hx => h x (.tail _ hx)))
/-- A letter stands first. -/
def letH (p : List UInt8) : Prop := match p with
  | [] => False
  | c :: _ => smU c = true ∨ caU c = true
/-- A name that is divided as a name. -/
def lxNm (num : List UInt8 → Int × Bool) (s : List UInt8) : Prop := match partsL s with
  | [] => False
  | p :: ps => (∀ b ∈ p, inU b = true) ∧ letH p ∧ ∀ q ∈ ps, lxPart num q
theorem lx_name {s r : List UInt8} (h : lxNm num s) (hr : NIn r) : Lx num ln s (nameTk (fun d => (num d).1) ln s) r := by
  unfold lxNm at h
  unfold nameTk
  cases hp : partsL s with
  | nil => rw [hp] at h; exact h.elim
  | cons p ps =>
    rw [hp] at h
    obtain ⟨ha, hc, hq⟩ := h
    have hj := partsL_join s p ps hp
    have := Lx.app (num := num) (ln := ln) (t := p) (k := [wtTk ln p]) (r := r) (by
      cases p with
      | nil => exact hc.elim
      | cons c p => exact Lx.wt rfl hc ha (hr.joinP ps)) (lx_rest hr ps hq)
    rw [hj] at this
    exact this
theorem lxNm_head {s : List UInt8} (h : lxNm num s) : ∃ c t, s = c :: t ∧ (smU c = true ∨ caU c = true) := by
  unfold lxNm at h
  cases hp : partsL s with
  | nil => rw [hp] at h; exact h.elim
  | cons p ps =>
    rw [hp] at h
    obtain ⟨ha, hc, hq⟩ := h
    have hj := partsL_join s p ps hp
    cases p with
    | nil => exact hc.elim
    | cons c p => exact ⟨c, p ++ joinP ps, hj.symm, hc⟩
/-! ### Predicates -/
variable {dig : Nat → List UInt8}
/-- Digits are those of their number. -/
def okDig (num : List UInt8 → Int × Bool) (dig : Nat → List UInt8) : Prop := ∀ n, n ≤ 1000000000000 → dig n ≠ [] ∧ (∀ b ∈ dig n, dgU b = true) ∧ num (dig n) = ((n : Int), true)
/-- A text that begins with neither an equals sign nor a greater sign. -/
def FsT (t : List UInt8) : Prop := ∃ c s, t = c :: s ∧ c ≠ 61 ∧ c ≠ 62
theorem FsT.app {t : List UInt8} (h : FsT t) (s : List UInt8) : FsT (t ++ s) := by
  obtain ⟨c, r, rfl, h1, h2⟩ := h
  exact ⟨c, r ++ s, rfl, h1, h2⟩
theorem in_fst {c : UInt8} (h : inU c = true) (t : List UInt8) : FsT (c :: t) := by
  refine ⟨c, t, rfl, ?_, ?_⟩
  · rintro rfl
    exact absurd h (by decide)
  · rintro rfl
    exact absurd h (by decide)
def LxP (num : List UInt8 → Int × Bool) (dig : Nat → List UInt8) (ln : Int) (p : Pr) : Prop := FsT (bdO (outT dig) p) ∧ ∀ r, NIn r → Lx num ln (bdO (outT dig) p) (bdO (outK (fun d => (num d).1) dig ln) p) r
theorem lx_open {r : List UInt8} : Lx num ln [40] [sgTk ln [40]] r := Lx.sg (by decide) (by decide) (by decide) rfl
theorem lx_close {r : List UInt8} : Lx num ln [41] [sgTk ln [41]] r := Lx.sg (by decide) (by decide) (by decide) rfl
theorem NIn.close {r : List UInt8} : NIn (41 :: r) := NIn.cons (by decide)
theorem LxP.kid {p : Pr} (h : LxP num dig ln p) (k : Nat) : FsT (prtO (outT dig) p k) ∧ ∀ r, NIn r → Lx num ln (prtO (outT dig) p k) (prtO (outK (fun d => (num d).1) dig ln) p k) r := by
  by_cases hk : k ≤ levN p.op
  · rw [prtO_lo _ hk, prtO_lo _ hk]
    exact h
  · rw [prtO_hi _ (by omega), prtO_hi _ (by omega)]
    exact ⟨⟨40, _, rfl, by decide, by decide⟩, fun r hr => Lx.app lx_open (Lx.app (h.2 _ NIn.close) lx_close)⟩
theorem LxP.prt {p : Pr} (h : LxP num dig ln p) (k : Nat) {r : List UInt8} (hr : NIn r) : Lx num ln (prtO (outT dig) p k) (prtO (outK (fun d => (num d).1) dig ln) p k) r := (h.kid k).2 r hr
theorem lx_commas {r : List UInt8} (hr : NIn r) : ∀ ks : List Pr, (∀ k ∈ ks, LxP num dig ln k) → Lx num ln (commas (outT dig) (ks.map fun p => prtO (outT dig) p 1)) (commas (outK (fun d => (num d).1) dig ln) (ks.map fun p => prtO (outK (fun d => (num d).1) dig ln) p 1)) r
  | [], _ => Lx.nil
  | [k], h => (h k (.head _)).prt 1 hr
  | k :: k2 :: ks, h => Lx.app ((h k (.head _)).prt 1 (NIn.cons (by decide))) (Lx.app (Lx.sg (s := []) (by decide) (by decide) (by decide) rfl) (Lx.app Lx.sp (lx_commas hr (k2 :: ks) fun x hx => h x (.tail _ hx))))
theorem lx_list {r : List UInt8} {ks : List Pr} (h : ∀ k ∈ ks, LxP num dig ln k) : Lx num ln (listO (outT dig) (ks.map (prtO (outT dig)))) (listO (outK (fun d => (num d).1) dig ln) (ks.map (prtO (outK (fun d => (num d).1) dig ln)))) r := by
  unfold listO
  rw [List.map_map, List.map_map]
  exact Lx.app lx_open (Lx.app (lx_commas NIn.close ks h) lx_close)
theorem lx_two {s : List UInt8} {lv l r : Nat} {op : Int} (hf : frN op = some (lv, l, r, s)) {x : List UInt8} : Lx num ln s [sgTk ln s] (32 :: x) := by
  rcases frN_cases hf with ⟨rfl, hq⟩ | ⟨rfl, hq⟩ | ⟨rfl, hq⟩ | ⟨rfl, hq⟩ | ⟨rfl, hq⟩ | ⟨rfl, hq⟩ | ⟨rfl, hq⟩ | ⟨rfl, hq⟩ | ⟨rfl, hq⟩ | ⟨rfl, hq⟩ | ⟨rfl, hq⟩ <;> cases hq <;> exact Lx.sg (by decide) (by decide) (by decide) rfl
theorem sign_not {t : List UInt8} (h : FsT t) : signT (33 :: t) = [33] := by
  obtain ⟨c, s, rfl, h1, h2⟩ := h
  have e1 : ((61 : UInt8) == c) = false := beq_eq_false_iff_ne.2 (Ne.symm h1)
  simp [signT, signsL, List.find?, List.isPrefixOf, e1]
theorem sign_neg {t : List UInt8} (h : FsT t) : signT (45 :: t) = [45] := by
  obtain ⟨c, s, rfl, h1, h2⟩ := h
  have e1 : ((62 : UInt8) == c) = false := beq_eq_false_iff_ne.2 (Ne.symm h2)
  simp [signT, signsL, List.find?, List.isPrefixOf, e1]
theorem lx_dig (hD : okDig num dig) {n : Nat} (hn : n ≤ 1000000000000) {r : List UInt8} (hr : NIn r) : Lx num ln (dig n) [⟨3, dig n, n, ln⟩] r := by
  obtain ⟨h1, h2, h3⟩ := hD n hn
  obtain ⟨c, s, he⟩ : ∃ c s, dig n = c :: s := by
    cases hd : dig n with
    | nil => exact absurd hd h1
    | cons c s => exact ⟨c, s, rfl⟩
  have := Lx.nmb (num := num) (ln := ln) (d := dig n) (r := r) he h2 hr.dg (by rw [h3])
  rw [h3] at this
  exact this
theorem lx_all {N : List UInt8 → Prop} (hN : ∀ s, N s → lxNm num s) (hD : okDig num dig) {p : Pr} (h : WfP N p) : LxP num dig ln p := by
  induction h with
  | int n h1 h2 =>
    by_cases hn : n < 0
    · have e : bdO (outT dig) ⟨1, [], n, []⟩ = [40] ++ ([45] ++ (dig n.natAbs ++ [41])) := by
        show (if n < 0 then _ else _) = _
        rw [if_pos hn]
        rfl
      have e2 : bdO (outK (fun d => (num d).1) dig ln) ⟨1, [], n, []⟩ = [sgTk ln [40]] ++ ([sgTk ln [45]] ++ ([⟨3, dig n.natAbs, n.natAbs, ln⟩] ++ [sgTk ln [41]])) := by
        show (if n < 0 then _ else _) = _
        rw [if_pos hn]
        rfl
      obtain ⟨q1, q2, q3⟩ := hD n.natAbs (by omega)
      unfold LxP
      rw [e, e2]
      refine ⟨⟨40, _, rfl, by decide, by decide⟩, fun r hr => Lx.app lx_open (Lx.app (Lx.sg (s := []) (by decide) (by decide) (by decide) (sign_neg ?_)) (Lx.app (lx_dig hD (by omega) NIn.close) lx_close))⟩
      cases hd : dig n.natAbs with
      | nil => exact absurd hd q1
      | cons c s => exact in_fst (in_dg (q2 c (by rw [hd]; exact .head _))) _
    · have e : bdO (outT dig) ⟨1, [], n, []⟩ = dig n.natAbs := by
        show (if n < 0 then _ else _) = _
        rw [if_neg hn]
        rfl
      have e2 : bdO (outK (fun d => (num d).1) dig ln) ⟨1, [], n, []⟩ = [⟨3, dig n.natAbs, n.natAbs, ln⟩] := by
        show (if n < 0 then _ else _) = _
        rw [if_neg hn]
        rfl
      obtain ⟨q1, q2, q3⟩ := hD n.natAbs (by omega)
      unfold LxP
      rw [e, e2]
      refine ⟨?_, fun r hr => lx_dig hD (by omega) hr⟩
      cases hd : dig n.natAbs with
      | nil => exact absurd hd q1
      | cons c s => exact in_fst (in_dg (q2 c (by rw [hd]; exact .head _))) _
  | boo n h =>
    rcases h with rfl | rfl
    · exact ⟨⟨102, _, rfl, by decide, by decide⟩, fun r hr => Lx.wt (c := 102) rfl (.inl (by decide)) (show ∀ b ∈ ([102, 97, 108, 115, 101] : List UInt8), inU b = true by decide) hr⟩
    · exact ⟨⟨116, _, rfl, by decide, by decide⟩, fun r hr => Lx.wt (c := 116) rfl (.inl (by decide)) (show ∀ b ∈ ([116, 114, 117, 101] : List UInt8), inU b = true by decide) hr⟩
  | var s h =>
    obtain ⟨c, t, he, hc⟩ := lxNm_head (hN s h)
    refine ⟨?_, fun r hr => lx_name (hN s h) hr⟩
    show FsT s
    rw [he]
    exact in_fst (by rcases hc with h | h; exact in_sm h; exact in_ca h) t
  | app s ks h h1 h2 ih =>
    obtain ⟨c, t, he, hc⟩ := lxNm_head (hN s h)
    have e : bdO (outT dig) ⟨4, s, 0, ks⟩ = s ++ listO (outT dig) (ks.map (prtO (outT dig))) := rfl
    have e2 : bdO (outK (fun d => (num d).1) dig ln) ⟨4, s, 0, ks⟩ = nameTk (fun d => (num d).1) ln s ++ listO (outK (fun d => (num d).1) dig ln) (ks.map (prtO (outK (fun d => (num d).1) dig ln))) := rfl
    unfold LxP
    rw [e, e2]
    refine ⟨?_, fun r hr => Lx.app (lx_name (hN s h) (NIn.cons (by decide))) (lx_list ih)⟩
    rw [he]
    exact (in_fst (by rcases hc with h | h; exact in_sm h; exact in_ca h) t).app _
  | hole s ks h h1 h2 ih =>
    have e : bdO (outT dig) ⟨5, s, 0, ks⟩ = [63] ++ (s ++ listO (outT dig) (ks.map (prtO (outT dig)))) := rfl
    have e2 : bdO (outK (fun d => (num d).1) dig ln) ⟨5, s, 0, ks⟩ = [sgTk ln [63]] ++ (nameTk (fun d => (num d).1) ln s ++ listO (outK (fun d => (num d).1) dig ln) (ks.map (prtO (outK (fun d => (num d).1) dig ln)))) := rfl
    unfold LxP
    rw [e, e2]
    exact ⟨⟨63, _, rfl, by decide, by decide⟩, fun r hr => Lx.app (Lx.sg (s := []) (by decide) (by decide) (by decide) rfl) (Lx.app (lx_name (hN s h) (NIn.cons (by decide))) (lx_list ih))⟩
  | neg a h ih =>
    have e : bdO (outT dig) ⟨9, [], 0, [a]⟩ = [45] ++ prtO (outT dig) a 9 := rfl
    have e2 : bdO (outK (fun d => (num d).1) dig ln) ⟨9, [], 0, [a]⟩ = [sgTk ln [45]] ++ prtO (outK (fun d => (num d).1) dig ln) a 9 := rfl
    unfold LxP
    rw [e, e2]
    exact ⟨⟨45, _, rfl, by decide, by decide⟩, fun r hr => Lx.app (Lx.sg (s := []) (by decide) (by decide) (by decide) (sign_neg ((ih.kid 9).1.app r))) (ih.prt 9 hr)⟩
  | not a h ih =>
    have e : bdO (outT dig) ⟨14, [], 0, [a]⟩ = [33] ++ prtO (outT dig) a 5 := rfl
    have e2 : bdO (outK (fun d => (num d).1) dig ln) ⟨14, [], 0, [a]⟩ = [sgTk ln [33]] ++ prtO (outK (fun d => (num d).1) dig ln) a 5 := rfl
    unfold LxP
    rw [e, e2]
    exact ⟨⟨33, _, rfl, by decide, by decide⟩, fun r hr => Lx.app (Lx.sg (s := []) (by decide) (by decide) (by decide) (sign_not ((ih.kid 5).1.app r))) (ih.prt 5 hr)⟩
  | two op lv l r s a b hf ha hb iha ihb =>
    unfold LxP
    rw [bdO_two (outT dig) hf rfl, bdO_two (outK (fun d => (num d).1) dig ln) hf rfl]
    refine ⟨(iha.kid l).1.app _, fun x hx => Lx.app (iha.prt l (NIn.cons (by decide))) (Lx.app Lx.sp (Lx.app (lx_two hf) (Lx.app Lx.sp (ihb.prt r hx))))⟩
end
end Go.Proofs.YtlglfkdjlbcpjaaGreatDoor
end

section
set_option linter.unusedVariables false
set_option linter.unusedSimpArgs false
set_option linter.unusedSectionVars false
namespace Go.Proofs.YtlglfkdjlbcpjaaGreatDoor
set_option maxRecDepth 100000
set_option maxHeartbeats 4000000
section
variable {kw : List UInt8 → Bool} {val : List UInt8 → Int} {dig : Nat → List UInt8} {ln : Int}
theorem prt_fst {p : Pr} {k : Nat} (hF : Fst (outK val dig ln) p) (h7 : 7 ≤ k) : ∃ t r, prtO (outK val dig ln) p k = t :: r ∧ (t.kind = 4 → t.text ≠ [33]) := by
  by_cases hl : k ≤ levN p.op
  · obtain ⟨t, r, hb, f, _⟩ := hF
    rw [prtO_lo (outK val dig ln) hl]
    exact ⟨t, r, hb, f (by omega)⟩
  · rw [prtO_hi (outK val dig ln) (by omega)]
    exact ⟨sgTk ln [40], _, rfl, fun _ => by simp [sgTk]⟩
theorem prt_ne {p : Pr} {k : Nat} (hF : Fst (outK val dig ln) p) : ∃ t r, prtO (outK val dig ln) p k = t :: r := by
  by_cases hl : k ≤ levN p.op
  · obtain ⟨t, r, hb, f, _⟩ := hF
    rw [prtO_lo (outK val dig ln) hl]
    exact ⟨t, r, hb⟩
  · rw [prtO_hi (outK val dig ln) (by omega)]
    exact ⟨sgTk ln [40], _, rfl⟩
theorem frN_lev {op : Int} {q : Nat × Nat × Nat × List UInt8} (h : frN op = some q) : levN op = q.1 := by
  rcases frN_cases h with ⟨rfl, rfl⟩ | ⟨rfl, rfl⟩ | ⟨rfl, rfl⟩ | ⟨rfl, rfl⟩ | ⟨rfl, rfl⟩ | ⟨rfl, rfl⟩ | ⟨rfl, rfl⟩ | ⟨rfl, rfl⟩ | ⟨rfl, rfl⟩ | ⟨rfl, rfl⟩ | ⟨rfl, rfl⟩ <;> rfl
/-- Chains: what is at the level itself. -/
theorem two_chain {op : Int} {k : Nat} {s : List UInt8} {a b : Pr} (hf : frN op = some (k, k, k + 1, s)) (hk : k = 1 ∨ k = 3 ∨ k = 4 ∨ k = 7 ∨ k = 8) (hop : (opL k).find? (fun p => decide (s = p.2)) = some (op, s)) (hs : s ≠ [46] ∧ s ≠ [40] ∧ lvS s = k)
    (ha : Rd kw (outK val dig ln) a) (hb : Rd kw (outK val dig ln) b) {l : List Tok} {i : Nat} {rest : List Tok} (hd : l.drop i = bdO (outK val dig ln) ⟨op, [], 0, [a, b]⟩ ++ rest) (hS : Stp (k + 1) rest) :
    ∃ c m g, RR kw l i (k + 1) = some (c, m) ∧ l.length ≤ g + (i + (bdO (outK val dig ln) ⟨op, [], 0, [a, b]⟩).length) ∧ chainG (RR kw l) l k l.length c m = chainG (RR kw l) l k g ⟨op, [], 0, [a, b]⟩ (i + (bdO (outK val dig ln) ⟨op, [], 0, [a, b]⟩).length) := by
  have e : bdO (outK val dig ln) ⟨op, [], 0, [a, b]⟩ = prtO (outK val dig ln) a k ++ (sgTk ln s :: prtO (outK val dig ln) b (k + 1)) := by
    rw [bdO_two (outK val dig ln) hf rfl]
    simp [outK_sg, outK_sp]
  rw [e] at hd ⊢
  rw [List.append_assoc, List.cons_append] at hd
  obtain ⟨c, m, g, h1, h2, h3⟩ := kid_chain ha hk hd (Stp.sg hs.1 hs.2.1 (by omega))
  have hd1 := drop_app hd
  obtain ⟨_, hd2, hlt⟩ := drop_get hd1
  have hr := kid_read hb (by omega) (by omega) hd2 hS
  obtain ⟨g, rfl⟩ : ∃ h, g = h + 1 := ⟨g - 1, by omega⟩
  refine ⟨c, m, g, h1, ?_, ?_⟩
  · simp only [List.length_append, List.length_cons]
    omega
  · rw [h3, chainG, opAt_sg hd1 hop]
    simp only
    rw [hr]
    simp only [List.length_append, List.length_cons]
    have : i + (prtO (outK val dig ln) a k).length + 1 + (prtO (outK val dig ln) b (k + 1)).length = i + ((prtO (outK val dig ln) a k).length + ((prtO (outK val dig ln) b (k + 1)).length + 1)) := by omega
    rw [this]
    rfl
theorem chain_rdA {p : Pr} {k : Nat} {l : List Tok} {i : Nat} {rest : List Tok} (hk : k = 1 ∨ k = 3 ∨ k = 4 ∨ k = 7 ∨ k = 8) (hil : i ≤ l.length) (hd : l.drop i = bdO (outK val dig ln) p ++ rest) (hS : Stp k rest) (h : ∃ a m g, RR kw l i (k + 1) = some (a, m) ∧ l.length ≤ g + (i + (bdO (outK val dig ln) p).length) ∧ chainG (RR kw l) l k l.length a m = chainG (RR kw l) l k g p (i + (bdO (outK val dig ln) p).length)) :
    RR kw l i k = some (p, i + (bdO (outK val dig ln) p).length) := by
  obtain ⟨a, m, g, h1, h2, h3⟩ := h
  have hd1 := drop_app hd
  have e : RR kw l i k = (RR kw l i (k + 1)).map fun q => chainG (RR kw l) l k l.length q.1 q.2 := by
    rw [RR_eq (by omega) (by omega) hil]
    rcases hk with rfl | rfl | rfl | rfl | rfl <;> rfl
  rw [e, h1, Option.map_some]
  simp only
  rw [h3, chain_stop (hS.op hd1 (Nat.le_refl _))]
theorem drop_lt {l : List Tok} {i : Nat} {a rest : List Tok} (hd : l.drop i = a ++ rest) (ha : ∃ t r, a = t :: r) : i < l.length := by
  obtain ⟨t, r, rfl⟩ := ha
  exact (drop_get hd).2.2
/-- From the facts at a form's own level. -/
theorem rd_mk {p : Pr} (hF : Fst (outK val dig ln) p) (hA : ∀ (l : List Tok) (i : Nat) (rest : List Tok), l.drop i = bdO (outK val dig ln) p ++ rest → Stp (levN p.op) rest → RR kw l i (levN p.op) = some (p, i + (bdO (outK val dig ln) p).length))
    (hS : ∀ (k : Nat), (k = 1 ∨ k = 3 ∨ k = 4 ∨ k = 7 ∨ k = 8) → k = levN p.op → ∀ (l : List Tok) (i : Nat) (rest : List Tok), l.drop i = bdO (outK val dig ln) p ++ rest → Stp (k + 1) rest → ∃ a m g, RR kw l i (k + 1) = some (a, m) ∧ l.length ≤ g + (i + (bdO (outK val dig ln) p).length) ∧ chainG (RR kw l) l k l.length a m = chainG (RR kw l) l k g p (i + (bdO (outK val dig ln) p).length)) : Rd kw (outK val dig ln) p := by
  have hA' : RdA kw (outK val dig ln) p := fun l i rest k h1 hk hd hSt => rdA_down hF h1 hk hd hSt (hA l i rest hd (hSt.mono hk))
  refine ⟨hA', fun l i rest k hk hl hd hSt => ?_, hF⟩
  by_cases he : k = levN p.op
  · exact hS k hk he l i rest hd hSt
  · exact ⟨p, _, l.length, hA' l i rest (k + 1) (by omega) (by omega) hd hSt, by omega, rfl⟩
theorem rd_two {op : Int} {lv la r : Nat} {s : List UInt8} {a b : Pr} (hf : frN op = some (lv, la, r, s)) (ha : Rd kw (outK val dig ln) a) (hb : Rd kw (outK val dig ln) b) : Rd kw (outK val dig ln) ⟨op, [], 0, [a, b]⟩ := by
  have hlev := frN_lev hf
  simp only at hlev
  have e : bdO (outK val dig ln) ⟨op, [], 0, [a, b]⟩ = prtO (outK val dig ln) a la ++ (sgTk ln s :: prtO (outK val dig ln) b r) := by
    rw [bdO_two (outK val dig ln) hf rfl]
    simp [outK_sg, outK_sp]
  have hF : Fst (outK val dig ln) ⟨op, [], 0, [a, b]⟩ := by
    by_cases h7 : 7 ≤ la
    · obtain ⟨t, r', h1, h2⟩ := prt_fst (k := la) ha.2.2 h7
      refine ⟨t, r' ++ (sgTk ln s :: prtO (outK val dig ln) b r), by rw [e, h1]; rfl, fun _ => h2, fun h => ?_⟩
      simp only [hlev] at h
      rcases frN_cases hf with ⟨rfl, hq⟩ | ⟨rfl, hq⟩ | ⟨rfl, hq⟩ | ⟨rfl, hq⟩ | ⟨rfl, hq⟩ | ⟨rfl, hq⟩ | ⟨rfl, hq⟩ | ⟨rfl, hq⟩ | ⟨rfl, hq⟩ | ⟨rfl, hq⟩ | ⟨rfl, hq⟩ <;> (cases hq; omega)
    · obtain ⟨t, r', h1⟩ := prt_ne (k := la) ha.2.2
      refine ⟨t, r' ++ (sgTk ln s :: prtO (outK val dig ln) b r), by rw [e, h1]; rfl, fun h => ?_, fun h => ?_⟩ <;> simp only [hlev] at h <;>
      (rcases frN_cases hf with ⟨rfl, hq⟩ | ⟨rfl, hq⟩ | ⟨rfl, hq⟩ | ⟨rfl, hq⟩ | ⟨rfl, hq⟩ | ⟨rfl, hq⟩ | ⟨rfl, hq⟩ | ⟨rfl, hq⟩ | ⟨rfl, hq⟩ | ⟨rfl, hq⟩ | ⟨rfl, hq⟩ <;> (cases hq; omega))
  have hch : (lv = la ∧ r = la + 1 ∧ (la = 1 ∨ la = 3 ∨ la = 4 ∨ la = 7 ∨ la = 8) ∧ (opL la).find? (fun p => decide (s = p.2)) = some (op, s) ∧ (s ≠ [46] ∧ s ≠ [40] ∧ lvS s = la)) ∨ (lv = 2 ∧ la = 3 ∧ r = 2 ∧ op = 17 ∧ s = [61, 62]) ∨ (lv = 6 ∧ la = 7 ∧ r = 7 ∧ cmpL.find? (fun p => decide (s = p.1)) = some (s, op, false) ∧ (s ≠ [46] ∧ s ≠ [40] ∧ lvS s = 6)) := by
    rcases frN_cases hf with ⟨rfl, hq⟩ | ⟨rfl, hq⟩ | ⟨rfl, hq⟩ | ⟨rfl, hq⟩ | ⟨rfl, hq⟩ | ⟨rfl, hq⟩ | ⟨rfl, hq⟩ | ⟨rfl, hq⟩ | ⟨rfl, hq⟩ | ⟨rfl, hq⟩ | ⟨rfl, hq⟩ <;> cases hq
    · exact .inl ⟨rfl, rfl, by omega, rfl, by decide⟩
    · exact .inr (.inl ⟨rfl, rfl, rfl, rfl, rfl⟩)
    · exact .inl ⟨rfl, rfl, by omega, rfl, by decide⟩
    · exact .inl ⟨rfl, rfl, by omega, rfl, by decide⟩
    · exact .inr (.inr ⟨rfl, rfl, rfl, rfl, by decide⟩)
    · exact .inr (.inr ⟨rfl, rfl, rfl, rfl, by decide⟩)
    · exact .inr (.inr ⟨rfl, rfl, rfl, rfl, by decide⟩)
    · exact .inr (.inr ⟨rfl, rfl, rfl, rfl, by decide⟩)
    · exact .inl ⟨rfl, rfl, by omega, rfl, by decide⟩
    · exact .inl ⟨rfl, rfl, by omega, rfl, by decide⟩
    · exact .inl ⟨rfl, rfl, by omega, rfl, by decide⟩
  rcases hch with ⟨rfl, rfl, hk, hop, hs⟩ | ⟨rfl, rfl, rfl, rfl, rfl⟩ | ⟨rfl, rfl, rfl, hop, hs⟩
  · refine rd_mk hF (fun l i rest hd hS => ?_) (fun k hk' he l i rest hd hS => ?_)
    · simp only [hlev] at hS ⊢
      exact chain_rdA hk (Nat.le_of_lt (drop_lt hd (by obtain ⟨t, r, h, _⟩ := hF; exact ⟨t, r, h⟩))) hd hS (two_chain hf hk hop hs ha hb hd (hS.mono (by omega)))
    · simp only [hlev] at he
      subst he
      exact two_chain hf hk hop hs ha hb hd hS
  · refine rd_mk hF (fun l i rest hd hS => ?_) (fun k hk' he => ?_)
    · simp only [hlev] at hS ⊢
      have hil := drop_lt hd (by obtain ⟨t, r, h, _⟩ := hF; exact ⟨t, r, h⟩)
      rw [e] at hd ⊢
      rw [List.append_assoc, List.cons_append] at hd
      have h1 := kid_read ha (by omega) (by omega) hd (Stp.sg (by decide) (by decide) (by decide))
      have hd1 := drop_app hd
      obtain ⟨_, hd2, _⟩ := drop_get hd1
      have h2 := kid_read hb (by omega) (by omega) hd2 hS
      rw [RR_eq (by omega) (by omega) (by omega)]
      show impG (RR kw l) l i = _
      unfold impG
      rw [h1]
      simp only
      rw [if_pos (by rw [sg_d hd1]; simp [sgTk]), h2]
      simp [tw]
      omega
    · simp only [hlev] at he
      omega
  · refine rd_mk hF (fun l i rest hd hS => ?_) (fun k hk' he => ?_)
    · simp only [hlev] at hS ⊢
      have hil := drop_lt hd (by obtain ⟨t, r, h, _⟩ := hF; exact ⟨t, r, h⟩)
      rw [e] at hd ⊢
      rw [List.append_assoc, List.cons_append] at hd
      have h1 := kid_read ha (by omega) (by omega) hd (Stp.sg hs.1 hs.2.1 (by omega))
      have hd1 := drop_app hd
      obtain ⟨_, hd2, _⟩ := drop_get hd1
      have h2 := kid_read hb (by omega) (by omega) hd2 (hS.mono (by omega))
      rw [RR_eq (by omega) (by omega) (by omega)]
      show cmpG (RR kw l) l i = _
      unfold cmpG
      rw [h1]
      simp only
      rw [cmpAt_sg hd1 hop]
      simp only
      rw [h2]
      simp [tw]
      omega
    · simp only [hlev] at he
      omega
/-- A form with a sign in front. -/
theorem rd_not {a : Pr} (ha : Rd kw (outK val dig ln) a) : Rd kw (outK val dig ln) ⟨14, [], 0, [a]⟩ := by
  have hlev : levN 14 = 5 := rfl
  have e : bdO (outK val dig ln) ⟨14, [], 0, [a]⟩ = sgTk ln [33] :: prtO (outK val dig ln) a 5 := rfl
  refine rd_mk ⟨_, _, e, fun h => by simp only [hlev] at h; omega, fun h => by simp only [hlev] at h; omega⟩ (fun l i rest hd hS => ?_) (fun k hk' he => by simp only [hlev] at he; omega)
  simp only [hlev] at hS ⊢
  rw [e, List.cons_append] at hd
  obtain ⟨_, hd1, hlt⟩ := drop_get hd
  rw [RR_eq (by omega) (by omega) (by omega)]
  show (if sgB l i [33] = true then (RR kw l (i + 1) 5).map _ else _) = _
  rw [if_pos (by rw [sg_d hd]; simp [sgTk]), kid_read ha (by omega) (by omega) hd1 hS, e]
  simp
  omega
theorem rd_neg {a : Pr} (ha : Rd kw (outK val dig ln) a) : Rd kw (outK val dig ln) ⟨9, [], 0, [a]⟩ := by
  have hlev : levN 9 = 9 := rfl
  have e : bdO (outK val dig ln) ⟨9, [], 0, [a]⟩ = sgTk ln [45] :: prtO (outK val dig ln) a 9 := rfl
  refine rd_mk ⟨_, _, e, fun _ _ => by simp [sgTk], fun h => by simp only [hlev] at h; omega⟩ (fun l i rest hd hS => ?_) (fun k hk' he => by simp only [hlev] at he; omega)
  simp only [hlev] at hS ⊢
  rw [e, List.cons_append] at hd
  obtain ⟨_, hd1, hlt⟩ := drop_get hd
  rw [RR_eq (by omega) (by omega) (by omega)]
  show (if sgB l i [45] = true then (RR kw l (i + 1) 9).map _ else _) = _
  rw [if_pos (by rw [sg_d hd]; simp [sgTk]), kid_read ha (by omega) (by omega) hd1 hS, e]
  simp
  omega
/-! ### What is read at the last level -/
/-- A form of the last level. -/
theorem rd_ten {p : Pr} (hlev : levN p.op = 10) (hne : ∃ t r, bdO (outK val dig ln) p = t :: r ∧ (t.kind = 4 → t.text ≠ [33] ∧ t.text ≠ [45])) (h : ∀ (l : List Tok) (i : Nat) (rest : List Tok), i < l.length → l.drop i = bdO (outK val dig ln) p ++ rest → Stp 10 rest → primG kw (RR kw l) l i = some (p, i + (bdO (outK val dig ln) p).length)) : Rd kw (outK val dig ln) p := by
  obtain ⟨t, r, hb, hn⟩ := hne
  refine rd_mk ⟨t, r, hb, fun _ q => (hn q).1, fun _ q => (hn q).2⟩ (fun l i rest hd hS => ?_) (fun k hk' he => by omega)
  rw [hlev] at hS ⊢
  have hil := drop_lt hd ⟨t, r, hb⟩
  rw [RR_eq (by omega) (by omega) (by omega)]
  exact h l i rest hil hd hS
theorem rd_boo {n : Int} (hn : n = 0 ∨ n = 1) : Rd kw (outK val dig ln) ⟨2, [], n, []⟩ := by
  refine rd_ten rfl ⟨wtTk ln (if decide (n = 1) = true then [116, 114, 117, 101] else [102, 97, 108, 115, 101]), [], rfl, fun h => ?_⟩ (fun l i rest hil hd hS => ?_)
  · rcases wtTk_kind (ln := ln) (q := if decide (n = 1) = true then [116, 114, 117, 101] else [102, 97, 108, 115, 101]) with e | e <;> omega
  · rcases hn with rfl | rfl
    · have hd' : l.drop i = wtTk ln [102, 97, 108, 115, 101] :: rest := hd
      unfold primG
      rw [(drop_get hd').1]
      simp only
      have k1 : (wtTk ln [102, 97, 108, 115, 101]).kind = 1 := rfl
      rw [if_neg (by rw [k1]; decide), if_neg (by simp [wtTk]), if_pos ⟨k1, rfl⟩]
      rfl
    · have hd' : l.drop i = wtTk ln [116, 114, 117, 101] :: rest := hd
      unfold primG
      rw [(drop_get hd').1]
      simp only
      have k1 : (wtTk ln [116, 114, 117, 101]).kind = 1 := rfl
      rw [if_neg (by rw [k1]; decide), if_pos ⟨k1, rfl⟩]
      rfl
theorem rd_int {n : Int} (h1 : -1000000000000 ≤ n) (h2 : n ≤ 1000000000000) : Rd kw (outK val dig ln) ⟨1, [], n, []⟩ := by
  by_cases hn : n < 0
  · have e : bdO (outK val dig ln) ⟨1, [], n, []⟩ = [sgTk ln [40], sgTk ln [45], ⟨3, dig n.natAbs, n.natAbs, ln⟩, sgTk ln [41]] := by
      show (if n < 0 then _ else _) = _
      rw [if_pos hn]
      rfl
    refine rd_ten rfl ⟨_, _, e, fun _ => by simp [sgTk]⟩ (fun l i rest hil hd hS => ?_)
    rw [e] at hd ⊢
    simp only [List.cons_append, List.nil_append] at hd
    obtain ⟨g0, d1, _⟩ := drop_get hd
    obtain ⟨g1, d2, _⟩ := drop_get d1
    obtain ⟨g2, d3, _⟩ := drop_get d2
    unfold primG
    rw [g0]
    simp only
    have hw : IntKind.i64.wrap (-(n.natAbs : Int)) = n := by
      have : -(n.natAbs : Int) = n := by omega
      rw [this]
      exact wrap64 (by omega)
    rw [if_neg (by simp [sgTk]), if_neg (by simp [sgTk]), if_neg (by simp [sgTk]), if_neg (by rw [sg_d hd]; simp [sgTk]), if_pos (by rw [sg_d hd]; simp [sgTk]), if_pos (by rw [sg_d d1, kd_d d2, sg_d d3]; simp [sgTk]), nm_d d2]
    simp only
    rw [hw]
    rfl
  · have e : bdO (outK val dig ln) ⟨1, [], n, []⟩ = [⟨3, dig n.natAbs, n.natAbs, ln⟩] := by
      show (if n < 0 then _ else _) = _
      rw [if_neg hn]
      rfl
    refine rd_ten rfl ⟨_, _, e, fun h => by simp at h⟩ (fun l i rest hil hd hS => ?_)
    rw [e] at hd ⊢
    simp only [List.cons_append, List.nil_append] at hd
    unfold primG
    rw [(drop_get hd).1]
    simp only
    rw [if_pos trivial]
    have : (n.natAbs : Int) = n := by omega
    rw [this]
    rfl
theorem nameTk_head {s : List UInt8} (hs : okNm kw s) : ∃ p r, nameTk val ln s = wtTk ln p :: r ∧ (kw p = false ∨ p = [118] ∨ p = [116, 97, 103] ∨ p = [118, 97, 108]) := by
  unfold okNm at hs
  unfold nameTk
  cases hp : partsL s with
  | nil => rw [hp] at hs; exact hs.elim
  | cons p ps =>
    rw [hp] at hs
    exact ⟨p, _, rfl, hs.1⟩
/-- A name's first token is no number, no constant and no sign. -/
theorem name_first (hT : kw [116, 114, 117, 101] = true) (hFa : kw [102, 97, 108, 115, 101] = true) {s : List UInt8} (hs : okNm kw s) {l : List Tok} {i : Nat} {rest : List Tok} (hd : l.drop i = nameTk val ln s ++ rest) (rd : Nat → Nat → Option (Pr × Nat)) :
    primG kw rd l i = (match nameR kw l i with
      | none => none
      | some (s, n) => (match listG rd l n with
        | some (ks, m) => some (⟨4, s, 0, ks⟩, m)
        | none => some (⟨3, s, 0, []⟩, n))) := by
  obtain ⟨p, r, he, hp⟩ := nameTk_head (val := val) (ln := ln) hs
  rw [he, List.cons_append] at hd
  have et : (wtTk ln p).text = p := rfl
  have k3 : ¬ (wtTk ln p).kind = 3 := by rcases wtTk_kind (ln := ln) (q := p) with e | e <;> omega
  have k4 : ∀ s, sgB l i s = false := fun s => sg_no hd (fun h => by rcases wtTk_kind (ln := ln) (q := p) with e | e <;> omega)
  have nt : ¬ p = [116, 114, 117, 101] := by
    rintro rfl
    rw [hT] at hp
    simp at hp
  have nf : ¬ p = [102, 97, 108, 115, 101] := by
    rintro rfl
    rw [hFa] at hp
    simp at hp
  unfold primG
  rw [(drop_get hd).1]
  simp only
  rw [if_neg k3, if_neg (by rw [et]; exact fun h => nt h.2), if_neg (by rw [et]; exact fun h => nf h.2), if_neg (by rw [k4]; simp), if_neg (by rw [k4]; simp)]
  try rfl
theorem name_nosign {s : List UInt8} (hs : okNm kw s) (x : List Tok) : ∃ t r, nameTk val ln s ++ x = t :: r ∧ (t.kind = 4 → t.text ≠ [33] ∧ t.text ≠ [45]) := by
  obtain ⟨p, r, he, hp⟩ := nameTk_head (val := val) (ln := ln) hs
  refine ⟨wtTk ln p, r ++ x, by rw [he]; rfl, fun h => ?_⟩
  rcases wtTk_kind (ln := ln) (q := p) with e | e <;> omega
theorem rd_var (hT : kw [116, 114, 117, 101] = true) (hFa : kw [102, 97, 108, 115, 101] = true) {s : List UInt8} (hs : okNm kw s) : Rd kw (outK val dig ln) ⟨3, s, 0, []⟩ := by
  have e : bdO (outK val dig ln) ⟨3, s, 0, []⟩ = nameTk val ln s := rfl
  refine rd_ten rfl (by rw [e]; have := name_nosign (val := val) (ln := ln) hs []; rwa [List.append_nil] at this) (fun l i rest hil hd hS => ?_)
  rw [e] at hd ⊢
  rw [name_first hT hFa hs hd, name_read hS.no hs hd]
  simp only
  unfold listG
  rw [if_neg (by rw [hS.par (drop_app hd)]; simp)]
theorem no_list (ks : List (Nat → List Tok)) (rest : List Tok) : NoNm (listO (outK val dig ln) ks ++ rest) := fun t ht => by
  have hd' : listO (outK val dig ln) ks ++ rest = sgTk ln [40] :: (commas (outK val dig ln) (ks.map fun f => f 1) ++ [sgTk ln [41]] ++ rest) := rfl
  rw [hd'] at ht
  cases ht
  simp [sgTk]
theorem rd_app (hT : kw [116, 114, 117, 101] = true) (hFa : kw [102, 97, 108, 115, 101] = true) {s : List UInt8} (hs : okNm kw s) {ks : List Pr} (hne : ks ≠ []) (hk : ∀ k ∈ ks, Rd kw (outK val dig ln) k) : Rd kw (outK val dig ln) ⟨4, s, 0, ks⟩ := by
  have e : bdO (outK val dig ln) ⟨4, s, 0, ks⟩ = nameTk val ln s ++ listO (outK val dig ln) (ks.map (prtO (outK val dig ln))) := rfl
  refine rd_ten rfl (by rw [e]; exact name_nosign hs _) (fun l i rest hil hd hS => ?_)
  rw [e] at hd ⊢
  rw [List.append_assoc] at hd
  rw [name_first hT hFa hs hd, name_read (no_list _ _) hs hd]
  simp only
  rw [list_read hne hk (drop_app hd)]
  simp
  omega
theorem rd_hole {s : List UInt8} (hs : okNm kw s) {ks : List Pr} (hne : ks ≠ []) (hk : ∀ k ∈ ks, Rd kw (outK val dig ln) k) : Rd kw (outK val dig ln) ⟨5, s, 0, ks⟩ := by
  have e : bdO (outK val dig ln) ⟨5, s, 0, ks⟩ = sgTk ln [63] :: (nameTk val ln s ++ listO (outK val dig ln) (ks.map (prtO (outK val dig ln)))) := rfl
  refine rd_ten rfl (by rw [e]; exact ⟨_, _, rfl, fun _ => by simp [sgTk]⟩) (fun l i rest hil hd hS => ?_)
  rw [e] at hd ⊢
  rw [List.cons_append, List.append_assoc] at hd
  obtain ⟨g0, hd1, _⟩ := drop_get hd
  unfold primG
  rw [g0]
  simp only
  rw [if_neg (by simp [sgTk]), if_neg (by simp [sgTk]), if_neg (by simp [sgTk]), if_pos (by rw [sg_d hd]; simp [sgTk]), name_read (no_list _ _) hs hd1]
  simp only
  rw [list_read hne hk (drop_app hd1)]
  simp
  omega
/-- Every predicate whose names can be read is read back from its tokens. -/
theorem rd_all (hT : kw [116, 114, 117, 101] = true) (hFa : kw [102, 97, 108, 115, 101] = true) {N : List UInt8 → Prop} (hN : ∀ s, N s → okNm kw s) {p : Pr} (h : WfP N p) : Rd kw (outK val dig ln) p := by
  induction h with
  | int n h1 h2 => exact rd_int h1 h2
  | boo n h => exact rd_boo h
  | var s h => exact rd_var hT hFa (hN s h)
  | app s ks h h1 h2 ih => exact rd_app hT hFa (hN s h) h1 ih
  | hole s ks h h1 h2 ih => exact rd_hole (hN s h) h1 ih
  | neg a h ih => exact rd_neg ih
  | not a h ih => exact rd_not ih
  | two op lv l r s a b hf ha hb iha ihb => exact rd_two hf iha ihb
end
end Go.Proofs.YtlglfkdjlbcpjaaGreatDoor
end
