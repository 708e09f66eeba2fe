/- The abstract machine on plain data: the library's contracts. No condition. -/
import Derived.Test.YtdnkdeplpnbojaaDoorVmI
import Derived.Lib.ItoaNum
import Derived.Lib.LaidTab
import Derived.WalkSmall
import Derived.Deep.Draws
import Derived.Lib.Join
import Derived.Sort.Grow
set_option linter.unusedVariables false
set_option linter.unusedSimpArgs false
set_option linter.unusedSectionVars false
namespace Go.VM
open Go Go.RowKit Go.Sort

section
variable {P : Program} {G : GT}
/-- A library function that only lays new blocks. -/
theorem CS.ofLib {f : FuncId} {ds : List D} {r : D} (h : ∀ (w : World) (R : Nat → Nat → Prop) (args : Array Value), Glob G w.heap.size R w → (∀ b o, R b o → b < w.heap.size) → args.size = ds.length → (∀ (i : Nat) (d : D), ds[i]? = some d → V R w (args.getD i undef) d) →
    Calls P f args w fun e w' => ∃ v, e = .returned v ∧ V R w' v r ∧ Below w.heap.size w w') : CS P G f ds (.d r) none := fun w R args hg hR hl hv =>
  (h w R args hg hR hl hv).mono fun e w' ⟨v, he, hr, hb⟩ => ⟨v, R, he, fun _ => .d _ _ hr, ⟨hb, fun _ _ h => h, fun _ _ h h' => absurd h h', fun b o hbo => hb.cell (hR b o hbo)⟩, fun b o hbo => Nat.lt_of_lt_of_le (hR b o hbo) hb.size, fun _ he => by cases he⟩

theorem Run.intCells {R : Nat → Nat → Prop} {w : World} {g : Nat} {k : IntKind} {zs : List Int} {arr : Array Value} {T : TypeId} {fr : Nat × Nat} (h : Run R w g 0 (zs.map (.int k))) (hb : w.heap[g]? = some (.cells arr T fr)) (hs : arr.size = zs.length) : arr = (zs.map fun z => Value.int k z).toArray := by
  apply Array.ext
  · simp [hs]
  · intro i h1 h2
    simp at h2
    obtain ⟨_, _, v, hc, hv⟩ := h i (.int k zs[i]) (by simp [h2])
    have hv := hv.int_inv
    subst hv
    unfold World.cell? at hc
    simp only [hb] at hc
    simp [h1] at hc
    simp [hc]
/-- A table of integers that is a package-level variable. -/
theorem Glob.tab {R : Nat → Nat → Prop} {w : World} {base : Nat} (h : Glob G base R w) {g : Nat} {name : String} {k : IntKind} {zs : List Int} (hg : P.globalNamed name = some g) (hG : G g = some (zs.map (.int k))) : Lib.TabIs P w name k zs := by
  obtain ⟨h1, _, arr, T, fr, h3, h4⟩ := h g _ hG
  unfold Lib.TabIs World.var?
  rw [hg]
  simp only [Option.bind_some, h3]
  rw [h1.intCells h3 (by simpa using h4)]
theorem below_grow {w w' : World} {k : Nat} {os : Array Obj} (h : w' = grow (w.drewN k) os) : Below w.heap.size w w' := by
  subst h
  refine ⟨rfl, rfl, rfl, by simp [grow, World.drewN], fun i hi => ?_⟩
  simp only [grow, World.drewN]
  rw [Array.getElem?_append_left hi]

/-- A number's digits, by a bound on their number. -/
def digF : Nat → Nat → List UInt8
  | 0, _ => []
  | n + 1, u => if u < 10 then [UInt8.ofNat (48 + u)] else digF n (u / 10) ++ [UInt8.ofNat (48 + u % 10)]
theorem digF_eq : ∀ (n u : Nat), u < 10 ^ (n + 1) → digF (n + 1) u = Lib.decDigits u
  | 0, u, h => by
    have hu : u < 10 := by simpa using h
    unfold digF Lib.decDigits
    rw [if_pos hu, dif_pos hu]
  | n + 1, u, h => by
    unfold digF Lib.decDigits
    by_cases hu : u < 10
    · rw [if_pos hu, dif_pos hu]
    · rw [if_neg hu, dif_neg hu]
      rw [digF_eq n (u / 10) (by rw [Nat.div_lt_iff_lt_mul (by omega)]; simpa [Nat.pow_succ] using h)]
def itoaF (n : Int) : List UInt8 := if n < 0 then 45 :: digF 20 n.natAbs else digF 20 n.toNat
theorem itoaF_eq {n : Int} (h0 : -9223372036854775808 ≤ n) (h1 : n ≤ 9223372036854775807) : itoaF n = Lib.itoa n := by
  unfold itoaF Lib.itoa
  rw [digF_eq 19 n.natAbs (by simp; omega), digF_eq 19 n.toNat (by simp; omega)]

/-- strings.Join, from the kit's contract. -/
theorem join_cs {f : FuncId} {xs : List (List UInt8)} {sep : List UInt8}
    (h0 : ∀ (a : Option Addr) (c : Nat) (sep : ByteArray) (w : World), Calls P f #[.slice a 0 c, .string sep] w fun e w' => e = .returned (.string ⟨#[]⟩) ∧ w' = w)
    (h1 : ∀ (bk o c : Nat) (xs : List ByteArray) (sep : ByteArray) (w : World), (∀ (j : Nat) x, xs[j]? = some x → w.cell? ⟨bk, o + j, none⟩ = some (.string x)) → bk < w.heap.size → xs.length ≤ 140737488355328 → xs.length ≤ c → (Lib.join (xs.map (·.data.toList)) sep.data.toList).length ≤ 140737488355328 →
      Calls P f #[.slice (some ⟨bk, o, none⟩) xs.length c, .string sep] w fun e w' => e = .returned (.string ⟨(Lib.join (xs.map (·.data.toList)) sep.data.toList).toArray⟩) ∧ Below w.heap.size w w')
    (hl : xs.length ≤ 140737488355328) (hj : (Lib.join xs sep).length ≤ 140737488355328) : CS P G f [.sl (xs.map fun s => [.str s]), .str sep] (.d (.str (Lib.join xs sep))) none := by
  refine CS.ofLib fun w R args hg hR hs hv => ?_
  have ha : args = #[args.getD 0 undef, args.getD 1 undef] := by
    obtain ⟨l⟩ := args
    match l, hs with
    | [a, b], _ => rfl
  have e1 := (hv 1 _ rfl).str_inv
  have e0 := hv 0 _ rfl
  have nix : ∀ a c, xs = [] → args = #[.slice a 0 c, .string ⟨sep.toArray⟩] → Calls P f args w fun e w' => ∃ v, e = .returned v ∧ V R w' v (.str (Lib.join xs sep)) ∧ Below w.heap.size w w' := fun a c hx ha' => by
    rw [ha', hx, Lib.join_nil]
    exact (h0 a c _ w).mono fun e w' ⟨he, hw⟩ => ⟨_, he, .str [], hw ▸ Below.refl _ _⟩
  generalize args.getD 0 undef = v0 at *
  rw [e1] at ha
  generalize hes : (xs.map fun s => [D.str s]) = es0 at e0
  cases e0 with
  | emp ao cap => exact nix ao cap (by simpa using hes) ha
  | sl b o n cap size es g q1 q2 q3 q4 q5 q6 q7 =>
    subst hes
    by_cases hx : xs = []
    · have : n = 0 := by rw [q1, hx]; rfl
      subst this
      exact nix _ cap hx ha
    · have hn : n = xs.length := by rw [q1]; simp
      have hsz : size = 1 := by
        cases xs with
        | nil => exact absurd rfl hx
        | cons x r => exact (q4 [.str x] (by simp)).symm
      subst hsz
      have hc : ∀ (j : Nat) (x : List UInt8), xs[j]? = some x → R b (o + j) ∧ w.cell? ⟨b, o + j, none⟩ = some (.string ⟨x.toArray⟩) := fun j x hj => by
        have hjl : j < n := by rw [hn]; exact (List.getElem?_eq_some_iff.1 hj).1
        obtain ⟨r1, r2⟩ := q5 j 0 hjl (by omega)
        have := q7 j 0 [.str x] (.str x) (by rw [List.getElem?_map, hj]; rfl) rfl
        simp only [Nat.mul_one, Nat.add_zero] at r1 r2
        rw [this.str_inv] at r2
        exact ⟨r1, r2⟩
      have hb : b < w.heap.size := by
        cases xs with
        | nil => exact absurd rfl hx
        | cons x r => exact hR b _ (hc 0 x rfl).1
      have key := h1 b o cap (xs.map fun s => ⟨s.toArray⟩) ⟨sep.toArray⟩ w (fun j x hj => by
        rw [List.getElem?_map] at hj
        obtain ⟨y, hy, rfl⟩ := Option.map_eq_some_iff.1 hj
        exact (hc j y hy).2) hb (by simpa using hl) (by simp; omega) (by simpa [List.map_map, Function.comp_def] using hj)
      simp only [List.length_map, List.map_map, Function.comp_def] at key
      rw [ha, hn]
      have hid : List.map (fun x : List UInt8 => x) xs = xs := by simp
      simp only [hid] at key
      exact key.mono fun e w' ⟨he, hw⟩ => ⟨_, he, .str _, hw⟩
end
end Go.VM
