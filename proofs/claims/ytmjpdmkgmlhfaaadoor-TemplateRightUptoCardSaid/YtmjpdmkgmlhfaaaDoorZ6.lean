/- Joined texts. The abstract machine on plain data: the library's contracts. The abstract machine on plain data: a contract with objects, shown by a run; and what it is to a caller. The abstract machine on plain data: what a contract with objects is to a caller. The abstract machine on plain data: a call that hands objects on. The abstract machine on plain data: an object that is written no more is settled: what names it reads its cells. No condition. -/
import Derived.Test.YtmjpdmkgmlhfaaaDoorZ3
import Derived.Lib.ItoaNum
import Derived.Lib.LaidTab
import Derived.WalkSmall
import Derived.Deep.Draws
import Derived.Lib.Join
import Derived.Sort.Grow
section
set_option linter.unusedVariables false
set_option linter.unusedSimpArgs false
set_option linter.unusedSectionVars false
namespace Go.VM
open Go Go.RowKit Go.Sort

section
variable {P : Program} {G : GT}
/-- A library function that only lays new blocks. -/
theorem CS.ofLib {f : FuncId} {ds : List D} {r : D} (h : ∀ (w : World) (R : Nat → Nat → Prop) (args : Array Value), Glob G (From w.heap.size) R w → (∀ b o, R b o → b < w.heap.size) → args.size = ds.length → (∀ (i : Nat) (d : D), ds[i]? = some d → V R w (args.getD i undef) d) →
    Calls P f args w fun e w' => ∃ v, e = .returned v ∧ V R w' v r ∧ Below w.heap.size w w') : CS P G f ds (.d r) none := fun w R args hg hR hl hv =>
  (h w R args hg hR hl hv).mono fun e w' ⟨v, he, hr, hb⟩ => ⟨v, R, he, fun _ => .d _ _ hr, ⟨.of_below hb, fun _ _ h => h, fun _ _ h h' => absurd h h', fun b o hbo => hb.cell (hR b o hbo)⟩, fun b o hbo => Nat.lt_of_lt_of_le (hR b o hbo) hb.size, fun _ he => by cases he⟩

theorem Run.intCells {R : Nat → Nat → Prop} {w : World} {g : Nat} {k : IntKind} {zs : List Int} {arr : Array Value} {T : TypeId} {fr : Nat × Nat} (h : Run R w g 0 (zs.map (.int k))) (hb : w.heap[g]? = some (.cells arr T fr)) (hs : arr.size = zs.length) : arr = (zs.map fun z => Value.int k z).toArray := by
  apply Array.ext
  · simp [hs]
  · intro i h1 h2
    simp at h2
    obtain ⟨_, _, v, hc, hv⟩ := h i (.int k zs[i]) (by simp [h2])
    have hv := hv.int_inv
    subst hv
    unfold World.cell? at hc
    simp only [hb] at hc
    simp [h1] at hc
    simp [hc]
/-- A table of integers that is a package-level variable. -/
theorem Glob.tab {R : Nat → Nat → Prop} {w : World} {base : Base} (h : Glob G base R w) {g : Nat} {name : String} {k : IntKind} {zs : List Int} (hg : P.globalNamed name = some g) (hG : G g = some (zs.map (.int k))) : Lib.TabIs P w name k zs := by
  obtain ⟨h1, _, arr, T, fr, h3, h4⟩ := h g _ hG
  unfold Lib.TabIs World.var?
  rw [hg]
  simp only [Option.bind_some, h3]
  rw [h1.intCells h3 (by simpa using h4)]
theorem below_grow {w w' : World} {k : Nat} {os : Array Obj} (h : w' = grow (w.drewN k) os) : Below w.heap.size w w' := by
  subst h
  refine ⟨rfl, rfl, rfl, by simp [grow, World.drewN], fun i hi => ?_⟩
  simp only [grow, World.drewN]
  rw [Array.getElem?_append_left hi]

/-- A number's digits, by a bound on their number. -/
def digF : Nat → Nat → List UInt8
  | 0, _ => []
  | n + 1, u => if u < 10 then [UInt8.ofNat (48 + u)] else digF n (u / 10) ++ [UInt8.ofNat (48 + u % 10)]
theorem digF_eq : ∀ (n u : Nat), u < 10 ^ (n + 1) → digF (n + 1) u = Lib.decDigits u
  | 0, u, h => by
    have hu : u < 10 := by simpa using h
    unfold digF Lib.decDigits
    rw [if_pos hu, dif_pos hu]
  | n + 1, u, h => by
    unfold digF Lib.decDigits
    by_cases hu : u < 10
    · rw [if_pos hu, dif_pos hu]
    · rw [if_neg hu, dif_neg hu]
      rw [digF_eq n (u / 10) (by rw [Nat.div_lt_iff_lt_mul (by omega)]; simpa [Nat.pow_succ] using h)]
def itoaF (n : Int) : List UInt8 := if n < 0 then 45 :: digF 20 n.natAbs else digF 20 n.toNat
theorem itoaF_eq {n : Int} (h0 : -9223372036854775808 ≤ n) (h1 : n ≤ 9223372036854775807) : itoaF n = Lib.itoa n := by
  unfold itoaF Lib.itoa
  rw [digF_eq 19 n.natAbs (by simp; omega), digF_eq 19 n.toNat (by simp; omega)]

/-- strings.Join, from the kit's contract. -/
theorem join_cs {f : FuncId} {xs : List (List UInt8)} {sep : List UInt8}
    (h0 : ∀ (a : Option Addr) (c : Nat) (sep : ByteArray) (w : World), Calls P f #[.slice a 0 c, .string sep] w fun e w' => e = .returned (.string ⟨#[]⟩) ∧ w' = w)
    (h1 : ∀ (bk o c : Nat) (xs : List ByteArray) (sep : ByteArray) (w : World), (∀ (j : Nat) x, xs[j]? = some x → w.cell? ⟨bk, o + j, none⟩ = some (.string x)) → bk < w.heap.size → xs.length ≤ 140737488355328 → xs.length ≤ c → (Lib.join (xs.map (·.data.toList)) sep.data.toList).length ≤ 140737488355328 →
      Calls P f #[.slice (some ⟨bk, o, none⟩) xs.length c, .string sep] w fun e w' => e = .returned (.string ⟨(Lib.join (xs.map (·.data.toList)) sep.data.toList).toArray⟩) ∧ Below w.heap.size w w')
    (hl : xs.length ≤ 140737488355328) (hj : (Lib.join xs sep).length ≤ 140737488355328) : CS P G f [.sl (xs.map fun s => [.str s]), .str sep] (.d (.str (Lib.join xs sep))) none := by
  refine CS.ofLib fun w R args hg hR hs hv => ?_
  have ha : args = #[args.getD 0 undef, args.getD 1 undef] := by
    obtain ⟨l⟩ := args
    match l, hs with
    | [a, b], _ => rfl
  have e1 := (hv 1 _ rfl).str_inv
  have e0 := hv 0 _ rfl
  have nix : ∀ a c, xs = [] → args = #[.slice a 0 c, .string ⟨sep.toArray⟩] → Calls P f args w fun e w' => ∃ v, e = .returned v ∧ V R w' v (.str (Lib.join xs sep)) ∧ Below w.heap.size w w' := fun a c hx ha' => by
    rw [ha', hx, Lib.join_nil]
    exact (h0 a c _ w).mono fun e w' ⟨he, hw⟩ => ⟨_, he, .str [], hw ▸ Below.refl _ _⟩
  generalize args.getD 0 undef = v0 at *
  rw [e1] at ha
  generalize hes : (xs.map fun s => [D.str s]) = es0 at e0
  cases e0 with
  | emp ao cap => exact nix ao cap (by simpa using hes) ha
  | sl b o n cap size es g q1 q2 q3 q4 q5 q6 q7 =>
    subst hes
    by_cases hx : xs = []
    · have : n = 0 := by rw [q1, hx]; rfl
      subst this
      exact nix _ cap hx ha
    · have hn : n = xs.length := by rw [q1]; simp
      have hsz : size = 1 := by
        cases xs with
        | nil => exact absurd rfl hx
        | cons x r => exact (q4 [.str x] (by simp)).symm
      subst hsz
      have hc : ∀ (j : Nat) (x : List UInt8), xs[j]? = some x → R b (o + j) ∧ w.cell? ⟨b, o + j, none⟩ = some (.string ⟨x.toArray⟩) := fun j x hj => by
        have hjl : j < n := by rw [hn]; exact (List.getElem?_eq_some_iff.1 hj).1
        obtain ⟨r1, r2⟩ := q5 j 0 hjl (by omega)
        have := q7 j 0 [.str x] (.str x) (by rw [List.getElem?_map, hj]; rfl) rfl
        simp only [Nat.mul_one, Nat.add_zero] at r1 r2
        rw [this.str_inv] at r2
        exact ⟨r1, r2⟩
      have hb : b < w.heap.size := by
        cases xs with
        | nil => exact absurd rfl hx
        | cons x r => exact hR b _ (hc 0 x rfl).1
      have key := h1 b o cap (xs.map fun s => ⟨s.toArray⟩) ⟨sep.toArray⟩ w (fun j x hj => by
        rw [List.getElem?_map] at hj
        obtain ⟨y, hy, rfl⟩ := Option.map_eq_some_iff.1 hj
        exact (hc j y hy).2) hb (by simpa using hl) (by simp; omega) (by simpa [List.map_map, Function.comp_def] using hj)
      simp only [List.length_map, List.map_map, Function.comp_def] at key
      rw [ha, hn]
      have hid : List.map (fun x : List UInt8 => x) xs = xs := by simp
      simp only [hid] at key
      exact key.mono fun e w' ⟨he, hw⟩ => ⟨_, he, .str _, hw⟩
end
end Go.VM
end

section
set_option linter.unusedVariables false
set_option linter.unusedSimpArgs false
set_option linter.unusedSectionVars false
namespace Go.VM
open Go Go.RowKit

section
variable {P : Program} {G : GT} {st : St} {base : Base} {R : Nat → Nat → Prop} {μ : Nat → Nat} {a : Act} {w : World}

/-! ### Results -/
def resV (P : Program) (s : St) : ResultVar → Option DV
  | .tmp i => some (s.tmps.getD i (.tup []))
  | .cell p ty => match s.tmps.getD p (.tup []) with
    | .ptr k off => (match getKey k s.H with
      | some (.cells cs) => takeV P ty (cs.drop off)
      | _ => none)
    | _ => none
def resultV (P : Program) (s : St) (rs : List ResultVar) : Option DV := match rs with
  | [r] => resV P s r
  | rs => (resDs P s rs).map .tup
theorem resV_ok (hr : Rel P G base R μ st a w) {r : ResultVar} {x : DV} (h : resV P st r = some x) : ∃ v, (resVal a.tmps r).run P w = .ok v w ∧ TV R μ w v x := by
  cases r with
  | tmp i =>
    simp only [resV, Option.some.injEq] at h
    subst h
    have he := hr.eval (.tmp i)
    simp only [St.eval, Act.eval] at he
    exact ⟨_, rfl, he⟩
  | cell p ty =>
    simp only [resV] at h
    have he := hr.eval (.tmp p)
    simp only [St.eval, Act.eval] at he
    split at h
    · rename_i k off hp
      split at h
      · rename_i cs hk
        rw [hp] at he
        obtain ⟨_, _, hob⟩ := hr.objs k _ hk
        have hrun := (RunV.of_obj hob).drop off
        rw [Nat.zero_add] at hrun
        obtain ⟨v, h1, h2, _⟩ := run_loadVar_runV (P := P) hrun h
        refine ⟨v, ?_, h2⟩
        unfold resVal
        simp only
        rw [he.ptr_inv]
        simp only [asAddr, Sem.run_bind, Sem.run_pure, Result.andThen_ok, h1]
      · cases h
    · cases h
theorem resultV_ok (hr : Rel P G base R μ st a w) {fn : Func} {r : DV} (h : resultV P st fn.results.toList = some r) : ∃ v, (results fn a.tmps).run P w = .ok v w ∧ TV R μ w v r := by
  unfold resultV at h
  split at h
  · rename_i r0 hrs
    obtain ⟨v, h1, h2⟩ := resV_ok hr h
    refine ⟨v, ?_, h2⟩
    rw [results_eq, Array.mapM_eq_mapM_toList, hrs]
    simp [h1]
  · rename_i hne
    obtain ⟨ds, hds, rfl⟩ := Option.map_eq_some_iff.1 h
    obtain ⟨vs, h1, h2, h3⟩ := resDs_ok hr hds
    have hl : vs.length ≠ 1 := fun e => by
      have : ds.length = 1 := by omega
      have hrl : fn.results.toList.length = 1 := by rw [← resDs_len hds]; exact this
      match hq : fn.results.toList, hrl with
      | [x], _ => exact hne x hq
    refine ⟨.tuple vs.toArray, ?_, .tup _ _ (by simpa using h2) (fun i d hi => by have := h3 i d hi; simpa [Array.getD_eq_getD_getElem?, List.getD] using this)⟩
    rw [results_eq, Array.mapM_eq_mapM_toList]
    simp only [Sem.run_bind, Sem.run_map, h1, Result.andThen_ok, Sem.run_pure]
    rw [dif_neg (by simpa using hl)]
where resDs_len {P : Program} {s : St} : ∀ {l : List ResultVar} {ds : List D}, resDs P s l = some ds → ds.length = l.length
  | [], ds, h => by simp [resDs] at h; subst h; rfl
  | r :: l, ds, h => by
    simp only [resDs] at h
    split at h
    · rename_i x ds' _ h'
      simp at h; subst h
      simp [resDs_len h']
    · cases h

/-- What a caller keeps of the last state: the result, the objects, what is owned. -/
def retLoc (n : Nat) (rs : List ResultVar) : Loc → Option Loc
  | .t j => match rs with
    | [.tmp i] => if i = j ∧ j < n then some (.t 0) else none
    | _ => none
  | .c k off => some (.c k off)
def retSt (s : St) (rs : List ResultVar) (r : DV) : St := ⟨[r], s.H, s.own.map fun c => (c.1, c.2.filterMap (retLoc s.tmps.length rs))⟩
def endOk (P : Program) (s : St) (rs : List ResultVar) (s1 : St) : Prop := match resultV P s rs with
  | some r => Weak (retSt s rs r) s1
  | none => False
theorem Rel.ret (hr : Rel P G base R μ st a w) {fn : Func} {r : DV} {v : Value} (hv : (results fn a.tmps).run P w = .ok v w) (ht : TV R μ w v r) : Rel P G base R μ (retSt st fn.results.toList r) { tmps := #[v], defers := [] } w := by
  refine ⟨rfl, rfl, fun i u d hu hd => ?_, hr.objs, hr.inj, fun c hc k off hl => ?_, ?_, hr.glob, hr.rset, hr.base, hr.pass⟩
  · simp only [retSt] at hd
    cases i with
    | zero => simp at hu hd; subst hu hd; exact ht
    | succ i => simp at hd
  · simp only [retSt, List.mem_map] at hc
    obtain ⟨c0, hc0, rfl⟩ := hc
    simp only [List.mem_filterMap] at hl
    obtain ⟨l0, hl0, he⟩ := hl
    cases l0 with
    | t j =>
      simp only [retLoc] at he
      split at he
      · split at he <;> cases he
      · cases he
    | c k' off' => simp only [retLoc, Option.some.injEq] at he; cases he; exact hr.locs c0 hc0 k off hl0
  · obtain ⟨vs, hl, h1, hap⟩ := hr.own
    refine ⟨vs, by simpa [retSt] using hl, fun i c u hc hu => ?_, hap⟩
    simp only [retSt, List.getElem?_map] at hc
    obtain ⟨c0, hc0, rfl⟩ := Option.map_eq_some_iff.1 hc
    have ho := h1 i c0 u hc0 hu
    refine ⟨fun l hl u' hu' => ?_, ho.own, ho.keys⟩
    simp only [List.mem_filterMap] at hl
    obtain ⟨l0, hl0, he⟩ := hl
    cases l0 with
    | t j =>
      simp only [retLoc] at he
      split at he
      · rename_i i' hrs
        split at he
        · rename_i hij
          cases he
          obtain ⟨rfl, hlt⟩ := hij
          simp [locVal] at hu'
          subst hu'
          have hrs' : fn.results = #[.tmp i'] := by
            apply Array.ext'
            simpa using hrs
          rw [results_tmp hrs' a.tmps P w] at hv
          cases hv
          have hlt' : i' < a.tmps.size := by rw [hr.size]; exact hlt
          exact ho.locs _ hl0 _ (by simp [locVal, hlt'])
        · cases he
      · cases he
    | c k' off' => simp only [retLoc, Option.some.injEq] at he; subst he; exact ho.locs _ hl0 u' hu'

/-- A contract with objects, from what the code comes to. -/
theorem CH.of_SW {f : FuncId} {fn : Func} {c : Code} {n : Nat} {s0 s1 : St} (hf : P.funcs[f]? = some fn) (hb : fn.body = some c) (hn : fn.ntmps = n) {rs : List ResultVar} (hrs : fn.results.toList = rs)
    (hT : (s0.own.all fun c => c.2.all fun l => match l with | .t i => decide (i < s0.tmps.length) | _ => true) = true)
    (h : SW P G c ⟨s0.tmps ++ List.replicate (n - s0.tmps.length) (.tup []), s0.H, s0.own⟩ fun e s => (e = .normal ∨ e = .ret) ∧ endOk P s rs s1) : CH P G f s0 s1 := by
  subst hrs
  intro base R μ args w hr
  refine calls_of_wp hf hb ?_
  have hsz : args.size = s0.tmps.length := hr.size
  have hrel : Rel P G base R μ ⟨s0.tmps ++ List.replicate (n - s0.tmps.length) (.tup []), s0.H, s0.own⟩ { tmps := args ++ Array.replicate (fn.ntmps - args.size) undef, defers := [] } w := by
    refine ⟨rfl, by simp [hsz, hn], fun i v d hiv hid => ?_, hr.objs, hr.inj, hr.locs, ?_, hr.glob, hr.rset, hr.base, hr.pass⟩
    · simp only at hid
      by_cases hi : i < s0.tmps.length
      · rw [List.getElem?_append_left hi] at hid
        rw [Array.getElem?_append_left (by omega)] at hiv
        exact hr.tmps i v d hiv hid
      · rw [List.getElem?_append_right (by omega), List.getElem?_replicate] at hid
        split at hid <;> simp at hid
        subst hid
        rw [Array.getElem?_append_right (by omega), Array.getElem?_replicate] at hiv
        split at hiv <;> simp at hiv
        subst hiv
        exact .tup #[] [] rfl (by simp)
    · obtain ⟨vs, hl, h1, hap⟩ := hr.own
      refine ⟨vs, hl, fun i c v hc hv => ?_, hap⟩
      have ho := h1 i c v hc hv
      refine ⟨fun l hl u hu => ?_, ho.own, ho.keys⟩
      cases l with
      | t j =>
        have hj := List.all_eq_true.1 (List.all_eq_true.1 hT c (List.mem_of_getElem? hc)) _ hl
        simp only [decide_eq_true_eq] at hj
        simp only [locVal] at hu
        rw [Array.getElem?_append_left (by omega)] at hu
        exact ho.locs _ hl u hu
      | c k off => exact ho.locs _ hl u hu
  refine wp_mono (h base R μ _ w hrel) fun e a' w' ⟨s, R', μ', ⟨he, hend⟩, hr', hs⟩ => ?_
  unfold endOk at hend
  split at hend
  · rename_i r hres
    obtain ⟨v, hv1, hv2⟩ := resultV_ok hr' hres
    have hpost : a'.defers = [] ∧ ∃ v, (results fn a'.tmps).run P w' = .ok v w' ∧ ∃ v' R' μ', Ending.returned v = .returned v' ∧ Rel P G base R' μ' s1 { tmps := #[v'], defers := [] } w' ∧ Step base R w R' w' :=
      ⟨hr'.defers, v, hv1, v, R', μ', rfl, (hr'.ret hv1 hv2).weak hend, hs⟩
    rcases he with rfl | rfl
    · exact hpost
    · exact hpost
  · exact hend.elim
/-- A CONTRACT WITH OBJECTS, SHOWN BY A RUN. -/
theorem CH.of_VK {f : FuncId} {fn : Func} {c : Code} {n : Nat} {s0 s1 : St} (hf : P.funcs[f]? = some fn) (hb : fn.body = some c) (hn : fn.ntmps = n) {rs : List ResultVar} (hrs : fn.results.toList = rs)
    (hT : (s0.own.all fun c => c.2.all fun l => match l with | .t i => decide (i < s0.tmps.length) | _ => true) = true)
    (h : VK P G [.code c] .normal ⟨s0.tmps ++ List.replicate (n - s0.tmps.length) (.tup []), s0.H, s0.own⟩ fun e s => (e = .normal ∨ e = .ret) ∧ endOk P s rs s1) : CH P G f s0 s1 := CH.of_SW hf hb hn hrs hT (VW_ok c _ _ (VW_of_VK h))
end
end Go.VM
end

section
set_option linter.unusedVariables false
set_option linter.unusedSimpArgs false
set_option linter.unusedSectionVars false
namespace Go.VM
open Go Go.RowKit

/-- The caller's own classes without those that are handed on. -/
def takeW (s : St) : List (TypeId × List Loc) → List (TypeId × List Loc) → Option (List (TypeId × List Loc))
  | own, [] => some own
  | own, c :: r => if nilCls s c then takeW s own r else match takeCls c own with
    | some own1 => takeW s own1 r
    | none => none
def renLoc (K : List (Nat × Nat)) (dst : Option Tmp) : Loc → Option Loc
  | .t i => if i = 0 then dst.map Loc.t else none
  | .c k off => some (.c (rk K k) off)
def renCls (K : List (Nat × Nat)) (dst : Option Tmp) (c : TypeId × List Loc) : TypeId × List Loc := (c.1, c.2.filterMap (renLoc K dst))
/-- Where the caller has what the callee owns. -/
def srcLoc (K : List (Nat × Nat)) (ls : List (Option Loc)) : Loc → Option Loc
  | .t i => (ls[i]?).join
  | .c k off => some (.c (rk K k) off)
def srcCls (K : List (Nat × Nat)) (ls : List (Option Loc)) (c : TypeId × List Loc) : TypeId × List Loc := (c.1, c.2.filterMap (srcLoc K ls))
/-- The arguments that are handed on with their spare places lie in temporaries. -/
def argOwn (n : Nat) (ls : List (Option Loc)) (own : List (TypeId × List Loc)) : Bool := own.all fun c => c.2.all fun l => match l with
  | .t i => (match ls[i]? with
    | some (some (.t t)) => decide (t < n)
    | _ => false)
  | .c _ _ => true
def dropKs : List (Nat × Nat) → List (TypeId × List Loc) → List (TypeId × List Loc)
  | [], own => own
  | p :: r, own => dropKs r (dropKey p.2 own)
def setAllK (K : List (Nat × Nat)) : List (Nat × AObj) → List (Nat × AObj) → List (Nat × AObj)
  | [], H => H
  | p :: r, H => setAllK K r (setKey (rk K p.1) (renO K p.2) H)
def renH (K : List (Nat × Nat)) (H : List (Nat × AObj)) : List (Nat × AObj) := H.map fun p => (rk K p.1, renO K p.2)
def putRes (dst : Option Tmp) (d : DV) (l : List DV) : List DV := match dst with
  | some i => l.set i d
  | none => l
def dropDst (dst : Option Tmp) (own : List (TypeId × List Loc)) : List (TypeId × List Loc) := match dst with
  | some d => dropLoc (.t d) own
  | none => own
/-- The caller's state behind the call. -/
def afterCall (K : List (Nat × Nat)) (dst : Option Tmp) (st : St) (rest : List (TypeId × List Loc)) (r : DV) (H1 : List (Nat × AObj)) (own1 : List (TypeId × List Loc)) : St :=
  { tmps := putRes dst (renV K r) st.tmps, H := setAllK K H1 st.H, own := own1.map (renCls K dst) ++ dropDst dst (dropKs K rest) }

def noTmp (own : List (TypeId × List Loc)) : Bool := own.all fun c => c.2.all fun l => match l with
  | .t _ => false
  | .c _ _ => true
/-- What can be looked up of the keys. -/
def keysFit (K : List (Nat × Nat)) (s0 : St) (r : DV) (H1 : List (Nat × AObj)) : Bool :=
  decide ((K.map (·.1)).Nodup) && decide ((K.map (·.2)).Nodup) && (K.all fun p => decide (100000 ≤ p.1)) && (s0.tmps.all (keysOk K)) &&
  (s0.H.all fun p => (K.any fun q => q.1 == p.1) && keysOkO K p.2 && (getKey p.1 H1).isSome) && keysIn s0.H s0.own &&
  keysOk K r && decide ((H1.map (·.1)).Nodup) && (H1.all fun p => keysOkO K p.2 && (getKey p.1 s0.H).isSome)

theorem getKey_mem {k : Nat} {o : AObj} : ∀ {H : List (Nat × AObj)}, getKey k H = some o → (k, o) ∈ H
  | [], h => by simp [getKey] at h
  | (k', o') :: r, h => by
    unfold getKey at h
    split at h
    · rename_i he; cases h; subst he; exact .head _
    · exact .tail _ (getKey_mem h)
theorem getKey_of_mem {k : Nat} {o : AObj} : ∀ {H : List (Nat × AObj)}, (H.map (·.1)).Nodup → (k, o) ∈ H → getKey k H = some o
  | (k', o') :: r, hn, h => by
    simp only [List.map_cons, List.nodup_cons] at hn
    unfold getKey
    rcases List.mem_cons.1 h with he | h
    · cases he; simp
    · have : k' ≠ k := fun e => hn.1 (by rw [e]; exact List.mem_map.2 ⟨(k, o), h, rfl⟩)
      rw [if_neg this]
      exact getKey_of_mem hn.2 h
theorem getKey_setAll {K : List (Nat × Nat)} {k : Nat} {o : AObj} : ∀ {l H : List (Nat × AObj)}, getKey k (setAllK K l H) = some o → (∃ p ∈ l, k = rk K p.1 ∧ o = renO K p.2) ∨ ((∀ p ∈ l, k ≠ rk K p.1) ∧ getKey k H = some o)
  | [], H, h => .inr ⟨by simp, h⟩
  | p :: r, H, h => by
    rcases getKey_setAll (l := r) h with ⟨q, h1, h2⟩ | ⟨h1, h2⟩
    · exact .inl ⟨q, .tail _ h1, h2⟩
    · rw [getKey_setKey] at h2
      split at h2
      · rename_i he; cases h2; exact .inl ⟨p, .head _, he.symm, rfl⟩
      · rename_i hne
        exact .inr ⟨fun q hq => by rcases List.mem_cons.1 hq with rfl | hq; exact fun e => hne e.symm; exact h1 q hq, h2⟩
theorem setAll_some {K : List (Nat × Nat)} {k : Nat} : ∀ {l H : List (Nat × AObj)}, (∃ o, getKey k H = some o) → ∃ o, getKey k (setAllK K l H) = some o
  | [], H, h => h
  | p :: r, H, ⟨o, h⟩ => setAll_some (l := r) (by
      rw [getKey_setKey]
      split
      · exact ⟨_, rfl⟩
      · exact ⟨o, h⟩)
theorem mem_dropKs {K : List (Nat × Nat)} : ∀ {own : List (TypeId × List Loc)} {i : Nat} {c : TypeId × List Loc}, (dropKs K own)[i]? = some c → ∃ c', own[i]? = some c' ∧ c.1 = c'.1 ∧ ∀ x, x ∈ c.2 → x ∈ c'.2 ∧ ∀ p ∈ K, x.ofKey p.2 = false := by
  induction K with
  | nil => intro own i c h; exact ⟨c, h, rfl, fun x hx => ⟨hx, by simp⟩⟩
  | cons p r ih =>
    intro own i c h
    obtain ⟨c1, h1, h2, h3⟩ := ih h
    obtain ⟨c0, g1, g2, g3⟩ := mem_dropKey h1
    refine ⟨c0, g1, h2.trans g2, fun x hx => ?_⟩
    obtain ⟨q1, q2⟩ := h3 x hx
    have q3 := (g3 x).1 q1
    exact ⟨q3.1, fun y hy => by rcases List.mem_cons.1 hy with rfl | hy; exact q3.2; exact q2 y hy⟩
theorem mem_dropDst {dst : Option Tmp} {own : List (TypeId × List Loc)} {i : Nat} {c : TypeId × List Loc} (h : (dropDst dst own)[i]? = some c) : ∃ c', own[i]? = some c' ∧ c.1 = c'.1 ∧ ∀ x, x ∈ c.2 → x ∈ c'.2 ∧ ∀ d, dst = some d → x ≠ .t d := by
  cases dst with
  | none => exact ⟨c, h, rfl, fun x hx => ⟨hx, by simp⟩⟩
  | some d =>
    obtain ⟨c', h1, h2, h3⟩ := mem_dropLoc h
    exact ⟨c', h1, h2, fun x hx => ⟨((h3 x).1 hx).1, fun d' hd => by cases hd; exact ((h3 x).1 hx).2⟩⟩
theorem dropKs_len (K : List (Nat × Nat)) : ∀ own, (dropKs K own).length = own.length := by
  induction K with
  | nil => intro own; rfl
  | cons p r ih => intro own; simp [dropKs, ih, dropKey]
theorem dropDst_len (dst : Option Tmp) (own : List (TypeId × List Loc)) : (dropDst dst own).length = own.length := by
  cases dst <;> simp [dropDst, dropLoc]

section
variable {P : Program} {G : GT} {st : St} {base : Base} {R : Nat → Nat → Prop} {μ : Nat → Nat} {a : Act} {w : World}

theorem takeW_ok (hr : Rel P G base R μ st a w) : ∀ (cs own own1 : List (TypeId × List Loc)) (vs : List Value), Own2 P base R μ st a w own vs → takeW st own cs = some own1 →
    ∃ vsT vs1 : List Value, vsT.length = cs.length ∧ (∀ (i : Nat) (c : TypeId × List Loc) (v : Value), cs[i]? = some c → vsT[i]? = some v → OwnOne P base R μ st a w c v) ∧ vsT.Pairwise Apart ∧ Own2 P base R μ st a w own1 vs1 ∧
      (∀ v ∈ vsT, ∀ u ∈ vs1, Apart v u) ∧ (∀ x ∈ vs1, x ∈ vs) ∧ ∀ x ∈ vsT, spareBlk x = none ∨ x ∈ vs
  | [], own, own1, vs, h, ht => by
    simp only [takeW, Option.some.injEq] at ht
    subst ht
    exact ⟨[], vs, rfl, by simp, .nil, h, by simp, fun _ h => h, by simp⟩
  | c :: r, own, own1, vs, h, ht => by
    unfold takeW at ht
    split at ht
    · rename_i hn
      obtain ⟨vsT, vs1, q1, q2, q3, q4, q5, q6, q7⟩ := takeW_ok hr r own own1 vs h ht
      have hex : ∃ v, OwnOne P base R μ st a w c v ∧ spareBlk v = none := by
        by_cases hx : ∃ l ∈ c.2, ∃ u, locVal a w μ l = some u
        · obtain ⟨l, hl, u, hu⟩ := hx
          unfold nilCls at hn
          split at hn
          · rename_i he; rw [he] at hl; cases hl
          · rename_i l' he
            rw [he] at hl
            simp at hl; subst hl
            obtain ⟨ao, rfl⟩ := isNil_val hr hn hu
            have hs : spareBlk (.slice ao 0 0) = none := by cases ao <;> rfl
            exact ⟨.slice ao 0 0, ⟨fun l2 hl2 u2 hu2 => by rw [he] at hl2; simp at hl2; subst hl2; rw [hu] at hu2; exact (Option.some.inj hu2).symm, .inl ⟨ao, rfl⟩, fun k o _ => by rw [hs]; simp⟩, hs⟩
          · cases hn
        · exact ⟨.slice none 0 0, ⟨fun l hl u hu => absurd ⟨l, hl, u, hu⟩ hx, .inl ⟨none, rfl⟩, fun k o _ => by simp [spareBlk]⟩, rfl⟩
      obtain ⟨v, hv1, hv2⟩ := hex
      refine ⟨v :: vsT, vs1, by simp [q1], fun i c' u hc hu => ?_, List.pairwise_cons.2 ⟨fun x _ g hg => (by rw [hv2] at hg; cases hg), q3⟩, q4, fun x hx u hu => ?_, q6, fun x hx => ?_⟩
      · cases i with
        | zero => simp at hc hu; subst hc hu; exact hv1
        | succ i => simp at hc hu; exact q2 i c' u hc hu
      · rcases List.mem_cons.1 hx with rfl | hx
        · exact fun g hg => by rw [hv2] at hg; cases hg
        · exact q5 x hx u hu
      · rcases List.mem_cons.1 hx with rfl | hx
        · exact .inl hv2
        · exact q7 x hx
    · split at ht
      · rename_i own2 htk
        obtain ⟨v, vs2, p1, p2, p3, p4, p5⟩ := h.take htk
        obtain ⟨vsT, vs1, q1, q2, q3, q4, q5, q6, q7⟩ := takeW_ok hr r own2 own1 vs2 p2 ht
        refine ⟨v :: vsT, vs1, by simp [q1], fun i c' u hc hu => ?_, List.pairwise_cons.2 ⟨fun x hx => ?_, q3⟩, q4, fun x hx u hu => ?_, fun x hx => p3 x (q6 x hx), fun x hx => ?_⟩
        · cases i with
          | zero => simp at hc hu; subst hc hu; exact p1
          | succ i => simp at hc hu; exact q2 i c' u hc hu
        · rcases q7 x hx with hs | hx'
          · exact fun g _ hg => by rw [hs] at hg; cases hg
          · exact p5 x hx'
        · rcases List.mem_cons.1 hx with rfl | hx
          · exact p5 u (q6 u hu)
          · exact q5 x hx u hu
        · rcases List.mem_cons.1 hx with rfl | hx
          · exact .inr p4
          · rcases q7 x hx with hs | hx'
            · exact .inl hs
            · exact .inr (p3 x hx')
      · cases ht
end
end Go.VM
end

section
set_option linter.unusedVariables false
set_option linter.unusedSimpArgs false
set_option linter.unusedSectionVars false
namespace Go.VM
open Go Go.RowKit
section
variable {P : Program} {G : GT} {st : St}

theorem OwnSl.mono {b b' : Base} {R : Nat → Nat → Prop} {w : World} {e : TypeId} {v : Value} (h : OwnSl P b R w e v) (hb : ∀ k, b k → b' k) : OwnSl P b' R w e v := by
  rcases h with h | ⟨g, n, cap, cur, h0, h1, h2⟩
  · exact .inl h
  · exact .inr ⟨g, n, cap, cur, h0, hb g h1, h2⟩

/-- WHAT A CONTRACT WITH OBJECTS IS TO A CALLER. -/
theorem CallTo.of_CH {f : FuncId} {s0 : St} {r : DV} {H1 : List (Nat × AObj)} {own1 : List (TypeId × List Loc)} (hch : CH P G f s0 ⟨[r], H1, own1⟩) (K : List (Nat × Nat)) {as : List DV} {ls : List (Option Loc)} {dst : Option Tmp} {rest : List (TypeId × List Loc)}
    (hfit : keysFit K s0 r H1 = true) (hargs : WkT as (renVs K s0.tmps)) (hH : WkH st.H (renH K s0.H)) (hown : takeW st st.own (s0.own.map (srcCls K ls)) = some rest) (kn : argOwn st.tmps.length ls s0.own = true) :
    CallTo P G f as ls st dst (afterCall K dst st rest r H1 own1) := by
  simp only [keysFit, Bool.and_eq_true, decide_eq_true_eq, List.all_eq_true] at hfit
  obtain ⟨⟨⟨⟨⟨⟨⟨⟨kf, ks⟩, kp⟩, kt⟩, kh⟩, kl⟩, kr⟩, kd⟩, k1⟩ := hfit
  intro base R μ a w args hr hl hv hloc
  obtain ⟨vs, hvs⟩ := hr.own
  obtain ⟨vsT, vsR, t1, t2, t3, t4, t5, t6, t7⟩ := takeW_ok hr _ _ _ vs ⟨hvs.len, hvs.one, hvs.apart⟩ hown
  -- the keys
  have inK : ∀ k o, getKey k s0.H = some o → (K.any fun p => p.1 == k) = true ∧ keysOkO K o = true ∧ (getKey k H1).isSome = true := fun k o hk => by
    have := kh _ (getKey_mem hk)
    try simp only [Bool.and_eq_true] at this
    exact ⟨this.1.1, this.1.2, this.2⟩
  have inst : ∀ k o, getKey k s0.H = some o → ∃ o', getKey (rk K k) st.H = some o' ∧ WkO o' (renO K o) := fun k o hk => by
    have hm := getKey_mem hk
    have : ∀ {l : List (Nat × AObj)}, WkH st.H (renH K l) → (k, o) ∈ l → ∃ o', getKey (rk K k) st.H = some o' ∧ WkO o' (renO K o) := by
      intro l
      induction l with
      | nil => intro _ h; cases h
      | cons p l ih =>
        intro hw hp
        obtain ⟨h1, h2⟩ := hw
        rcases List.mem_cons.1 hp with rfl | hp
        · exact h1
        · exact ih h2 hp
    exact this hH hm
  have big : ∀ k, (K.any fun p => p.1 == k) = true → 100000 ≤ k := fun k hk => by
    obtain ⟨p, h1, h2, _⟩ := rk_mem hk
    rw [← h2]; exact kp p h1
  have rinj : ∀ k k', (K.any fun p => p.1 == k) = true → (K.any fun p => p.1 == k') = true → rk K k = rk K k' → k = k' := fun k k' h h' he => by
    obtain ⟨p, p1, p2, p3⟩ := rk_mem h
    obtain ⟨q, q1, q2, q3⟩ := rk_mem h'
    have hpq : p.2 = q.2 := by rw [← p3, ← q3, he]
    have : p = q := nodup_inj ks p1 q1 hpq
    rw [← p2, ← q2, this]
  have one : ∀ k, (getKey k H1).isSome = true → ∃ o, getKey k s0.H = some o := fun k hk => by
    obtain ⟨o, ho⟩ := Option.isSome_iff_exists.1 hk
    have := k1 _ (getKey_mem ho)
    try simp only [Bool.and_eq_true] at this
    exact Option.isSome_iff_exists.1 this.2
  -- the callee's blocks
  let base' : Base := ⟨fun b => w.heap.size ≤ b ∨ (∃ k o, getKey k s0.H = some o ∧ b = μ (rk K k)) ∨ (∃ v ∈ vsT, spareBlk v = some b), fun k => μ (rk K k)⟩
  have sub : ∀ b, base' b → base b := fun b hb => by
    rcases hb with hb | ⟨k, o, hk, rfl⟩ | ⟨v, hv, hs⟩
    · exact hr.base b hb
    · obtain ⟨o', ho', _⟩ := inst k o hk
      exact (hr.objs _ o' ho').1
    · obtain ⟨i, hi⟩ := List.getElem?_of_mem hv
      have hil : i < (s0.own.map (srcCls K ls)).length := by rw [← t1]; exact (List.getElem?_eq_some_iff.1 hi).1
      exact (t2 i _ v (List.getElem?_eq_getElem hil) hi).own.base_le hs
  have hrel0 : Rel P G base' R (fun k => μ (rk K k)) s0 { tmps := args, defers := [] } w := by
    obtain ⟨g1, g2⟩ := WkT_spec hargs
    rw [renVs_eq] at g1 g2
    refine ⟨rfl, by show args.size = s0.tmps.length; rw [List.length_map] at g1; omega, fun i v d hiv hid => ?_, fun k o hk => ?_, fun k k' o o' hk hk' he => ?_, fun c hc k off hl' => ?_, ⟨vsT, by simpa using t1, fun i c v hc hv' => ?_, t3⟩, hr.glob.up sub, hr.rset, fun b hb => .inl hb, fun k hk => rfl⟩
    · obtain ⟨d0, hd0, hcase⟩ := g2 i (renV K d) (by rw [List.getElem?_map, hid]; rfl)
      have hva := hv i d0 hd0
      have hav : args.getD i undef = v := by
        simp only at hiv
        simp [Array.getD_eq_getD_getElem?, hiv]
      rw [hav] at hva
      have hren : TV R μ w v (renV K d) := by
        rcases hcase with hc | hc | ⟨hc1, hc2⟩
        · rw [hc]; exact .undef _
        · rw [hc]; exact hva
        · rw [hc2]
          rw [hc1] at hva
          obtain ⟨ao, rfl⟩ := hva.dinv.nils_inv
          exact .d _ _ (.emp _ _)
      exact hren.ren (μ := μ) (fun _ _ => rfl) (kt d (List.mem_of_getElem? hid))
    · obtain ⟨q1, q2, _⟩ := inK k o hk
      obtain ⟨o', ho', hw⟩ := inst k o hk
      obtain ⟨p1, p2, p3⟩ := hr.objs _ o' ho'
      exact ⟨.inr (.inl ⟨k, o, hk, rfl⟩), p2, (WkO_rel hw p3).ren (fun _ _ => rfl) q2⟩
    · obtain ⟨o1, h1, _⟩ := inst k o hk
      obtain ⟨o2, h2, _⟩ := inst k' o' hk'
      exact rinj k k' (inK k o hk).1 (inK k' o' hk').1 (hr.inj _ _ o1 o2 h1 h2 he)
    · have := List.all_eq_true.1 (List.all_eq_true.1 kl c hc) _ hl'
      exact Option.isSome_iff_exists.1 this
    · have ho := t2 i (srcCls K ls c) v (by rw [List.getElem?_map, hc]; rfl) hv'
      refine ⟨fun l hl' u hu => ?_, ?_, fun k o hk => ?_⟩
      · have hn := List.all_eq_true.1 (List.all_eq_true.1 kn c (List.mem_of_getElem? hc)) l hl'
        cases l with
        | t j =>
          simp only at hn
          split at hn
          · rename_i t hj
            simp only [decide_eq_true_eq] at hn
            have ht : t < a.tmps.size := by rw [hr.size]; exact hn
            have hlv : locVal a w μ (.t t) = some a.tmps[t] := by simp [locVal, ht]
            have h1 := hloc j _ hj _ hlv
            have h2 := ho.locs (.t t) (List.mem_filterMap.2 ⟨.t j, hl', by simp [srcLoc, hj]⟩) _ hlv
            simp only [locVal] at hu
            have h3 : args.getD j undef = u := by simp [Array.getD_eq_getD_getElem?, hu]
            rw [← h3, ← h1, h2]
          · cases hn
        | c k off => exact ho.locs (.c (rk K k) off) (List.mem_filterMap.2 ⟨.c k off, hl', rfl⟩) u hu
      · rcases ho.own with h | ⟨g, n, cap, cur, h0, h1, h2, h3, h4⟩
        · exact .inl h
        · by_cases hc0 : cap = 0
          · subst hc0
            have : n = 0 := by omega
            subst this
            exact .inl ⟨_, h0⟩
          · exact .inr ⟨g, n, cap, cur, h0, .inr (.inr ⟨v, List.mem_of_getElem? hv', by rw [h0]; simp [spareBlk, hc0]⟩), h2, h3, h4⟩
      · obtain ⟨o', ho', _⟩ := inst k o hk
        exact ho.keys _ o' ho'
  refine (hch base' R (fun k => μ (rk K k)) args w hrel0).mono fun e w' ⟨v, R', ν, he, hrel1, hs⟩ => ⟨v, R', μ, he, ?_, ⟨hs.below.mono sub, hs.mono, fun b o h1 h2 => sub b (hs.new b o h1 h2), hs.cells⟩⟩
  have hsb : Step base R w R' w' := ⟨hs.below.mono sub, hs.mono, fun b o h1 h2 => sub b (hs.new b o h1 h2), hs.cells⟩
  have hν : ∀ k, (K.any fun p => p.1 == k) = true → ν k = μ (rk K k) := fun k hk => hrel1.pass k (big k hk)
  have k1' : ∀ p ∈ H1, keysOkO K p.2 = true ∧ (∃ o, getKey p.1 s0.H = some o) ∧ getKey p.1 H1 = some p.2 := fun p hp => by
    have := k1 p hp
    try simp only [Bool.and_eq_true] at this
    exact ⟨this.1, Option.isSome_iff_exists.1 this.2, getKey_of_mem kd hp⟩
  -- a block that is not the callee's is as it was
  have kept : ∀ b, ¬ base' b → w'.heap[b]? = w.heap[b]? ∧ ∀ off, R' b off → R b off := fun b hb => ⟨hs.below.block b hb, fun off h => by
    by_cases hx : R b off
    · exact hx
    · exact absurd (hs.new b off h hx) hb⟩
  have objOut : ∀ k o, (∀ p ∈ H1, k ≠ rk K p.1) → getKey k st.H = some o → ¬ base' (μ k) := fun k o hk ho hb => by
    rcases hb with hb | ⟨k0, o0, h0, he'⟩ | ⟨u, hu, hsp⟩
    · have := (hr.objs k o ho).2.2.lt; omega
    · obtain ⟨o', ho', _⟩ := inst k0 o0 h0
      have := hr.inj k (rk K k0) o o' ho ho' he'
      obtain ⟨o1, ho1⟩ := Option.isSome_iff_exists.1 (inK k0 o0 h0).2.2
      exact hk (k0, o1) (getKey_mem ho1) this
    · obtain ⟨i, hi⟩ := List.getElem?_of_mem hu
      have hil : i < (s0.own.map (srcCls K ls)).length := by rw [← t1]; exact (List.getElem?_eq_some_iff.1 hi).1
      exact (t2 i _ u (List.getElem?_eq_getElem hil) hi).keys k o ho hsp
  have known : ∀ k o, getKey k (setAllK K H1 st.H) = some o → ∃ o', getKey k st.H = some o' := fun k o hk => by
    rcases getKey_setAll hk with ⟨p, hp, rfl, _⟩ | ⟨_, h⟩
    · obtain ⟨_, ⟨o0, h0⟩, _⟩ := k1' p hp
      obtain ⟨o', ho', _⟩ := inst _ _ h0
      exact ⟨o', ho'⟩
    · exact ⟨o, h⟩
  obtain ⟨vs1, hv1⟩ := hrel1.own
  have hd0 : ∀ u, (#[v] : Array Value)[0]? = some u → u = v := fun u hu => by simp at hu; exact hu.symm
  refine ⟨by cases dst <;> exact hr.defers, ?_, fun i u d hu hd => ?_, fun k o hk => ?_, fun k k' o o' hk hk' he' => ?_, fun c hc k off hl' => ?_, ⟨vs1 ++ vsR, ?_, fun i c u hc hu => ?_, ?_⟩, hr.glob.of_step hsb, hrel1.rset, fun b hb => hr.base b (Nat.le_trans hs.below.size hb), hr.pass⟩
  · cases dst with
    | none => exact hr.size
    | some t => simp [afterCall, putRes, Act.put, hr.size]
  · -- the temporaries
    have hres : TV R' μ w' v (renV K r) := (hrel1.tmps 0 v r rfl rfl).unren hν kr
    cases dst with
    | none => exact (hr.tmps i u d hu hd).of_step hsb
    | some t =>
      simp only [afterCall, putRes, Act.put] at hu hd
      by_cases hti : t = i
      · subst hti
        have h1 : t < st.tmps.length := by
          by_cases hlt : t < st.tmps.length
          · exact hlt
          · have hno : (st.tmps.set t (renV K r))[t]? = none := List.getElem?_eq_none (by rw [List.length_set]; exact Nat.le_of_not_lt hlt)
            rw [hno] at hd; cases hd
        have h2 : t < a.tmps.size := by rw [hr.size]; exact h1
        simp [h1] at hd
        simp [h2] at hu
        subst hu hd
        exact hres
      · rw [Array.getElem?_setIfInBounds_ne hti] at hu
        rw [List.getElem?_set_ne hti] at hd
        exact (hr.tmps i u d hu hd).of_step hsb
  · -- the objects
    simp only [afterCall] at hk
    rcases getKey_setAll hk with ⟨p, hp, rfl, rfl⟩ | ⟨hk1, hk2⟩
    · obtain ⟨q1, ⟨o0, h0⟩, q3⟩ := k1' p hp
      obtain ⟨p1, p2, p3⟩ := hrel1.objs p.1 p.2 q3
      have hk0 := (inK _ _ h0).1
      rw [hν _ hk0] at p1 p2 p3
      exact ⟨sub _ p1, p2, p3.unren hν q1⟩
    · obtain ⟨p1, p2, p3⟩ := hr.objs k o hk2
      obtain ⟨e1, e2⟩ := kept _ (objOut k o hk1 hk2)
      exact ⟨p1, fun off h => p2 off (e2 off h), p3.of_step hsb e1⟩
  · obtain ⟨o1, h1⟩ := known k o hk
    obtain ⟨o2, h2⟩ := known k' o' hk'
    exact hr.inj k k' o1 o2 h1 h2 he'
  · -- places of own classes
    simp only [afterCall, List.mem_append] at hc
    rcases hc with hc | hc
    · obtain ⟨c0, hc0, rfl⟩ := List.mem_map.1 hc
      obtain ⟨l0, hl0, he0⟩ := List.mem_filterMap.1 hl'
      cases l0 with
      | t j =>
        simp only [renLoc] at he0
        split at he0
        · cases dst <;> simp at he0
        · cases he0
      | c k0 off0 =>
        simp only [renLoc, Option.some.injEq] at he0
        cases he0
        obtain ⟨o, ho⟩ := hrel1.locs c0 hc0 k0 off hl0
        have hm := getKey_mem ho
        obtain ⟨_, ⟨o0, h0⟩, _⟩ := k1' _ hm
        obtain ⟨o', ho', _⟩ := inst _ _ h0
        exact setAll_some ⟨o', ho'⟩
    · obtain ⟨i, hi⟩ := List.getElem?_of_mem hc
      obtain ⟨c1, g1, _, g3⟩ := mem_dropDst hi
      obtain ⟨c2, f1, _, f3⟩ := mem_dropKs g1
      have hx := (f3 _ (g3 _ hl').1).1
      have hmem := List.mem_of_getElem? f1
      obtain ⟨o, ho⟩ := hr.locs c2 (takeW_sub hown c2 hmem) k off hx
      exact setAll_some ⟨o, ho⟩
  · have := hv1.len
    have := t4.len
    simp only [afterCall, List.length_append, List.length_map, dropDst_len, dropKs_len]
    simp at *
    omega
  · -- the own classes
    simp only [afterCall] at hc
    have h1l : vs1.length = own1.length := hv1.len
    by_cases hi : i < own1.length
    · rw [List.getElem?_append_left (by simpa using hi), List.getElem?_map] at hc
      rw [List.getElem?_append_left (by omega)] at hu
      obtain ⟨c0, hc0, rfl⟩ := Option.map_eq_some_iff.1 hc
      have ho := hv1.one i c0 u hc0 hu
      refine ⟨fun l hl' u' hu' => ?_, ho.own.mono sub, fun k o hk => ?_⟩
      · obtain ⟨l0, hl0, he0⟩ := List.mem_filterMap.1 hl'
        cases l0 with
        | t j =>
          simp only [renLoc] at he0
          split at he0
          · rename_i hj
            subst hj
            cases dst with
            | none => simp at he0
            | some t =>
              simp at he0
              subst he0
              simp only [locVal, Act.put] at hu'
              by_cases hlt : t < a.tmps.size
              · simp [hlt] at hu'
                subst hu'
                exact ho.locs (.t 0) hl0 _ (by simp [locVal])
              · simp [hlt] at hu'
          · cases he0
        | c k0 off0 =>
          simp only [renLoc, Option.some.injEq] at he0
          subst he0
          obtain ⟨o, hoo⟩ := hrel1.locs c0 (List.mem_of_getElem? hc0) k0 off0 hl0
          obtain ⟨_, ⟨o0, h0⟩, _⟩ := k1' _ (getKey_mem hoo)
          have hk0 := (inK _ _ h0).1
          refine ho.locs (.c k0 off0) hl0 u' ?_
          simp only [locVal] at hu' ⊢
          rw [hν _ hk0]
          cases dst <;> exact hu'
      · simp only [afterCall] at hk
        rcases getKey_setAll hk with ⟨p, hp, rfl, _⟩ | ⟨hk1, hk2⟩
        · obtain ⟨_, ⟨o0, h0⟩, q3⟩ := k1' p hp
          have := ho.keys p.1 p.2 q3
          rw [hν _ (inK _ _ h0).1] at this
          exact this
        · intro hsp
          exact objOut k o hk1 hk2 (ho.own.base_le hsp)
    · rw [List.getElem?_append_right (by simp; omega)] at hc
      rw [List.getElem?_append_right (by omega)] at hu
      simp only [List.length_map] at hc
      rw [h1l] at hu
      obtain ⟨c1, g1, g2, g3⟩ := mem_dropDst hc
      obtain ⟨c2, f1, f2, f3⟩ := mem_dropKs g1
      have ho := t4.one _ c2 u f1 hu
      have hum := List.mem_of_getElem? hu
      -- its spare places are not the callee's
      have out : ∀ g, spareBlk u = some g → ¬ base' g := fun g hg hb => by
        rcases hb with hb | ⟨k0, o0, h0, he'⟩ | ⟨x, hx, hsp⟩
        · have := ho.own.lt hg; omega
        · obtain ⟨o', ho', _⟩ := inst k0 o0 h0
          exact ho.keys _ o' ho' (by rw [hg, he'])
        · exact t5 x hx u hum g hsp hg
      refine ⟨fun l hl' u' hu' => ?_, ?_, fun k o hk => ?_⟩
      · obtain ⟨q1, q2⟩ := g3 l hl'
        obtain ⟨q3, q4⟩ := f3 l q1
        refine ho.locs l q3 u' ?_
        rw [locVal_put_ne q2] at hu'
        cases l with
        | t j => exact hu'
        | c k off =>
          obtain ⟨o, hoo⟩ := hr.locs c2 (takeW_sub hown c2 (List.mem_of_getElem? f1)) k off q3
          have hno : ∀ p ∈ H1, k ≠ rk K p.1 := fun p hp e => by
            obtain ⟨_, ⟨o0, h0⟩, _⟩ := k1' p hp
            obtain ⟨q, hq1, hq2, hq3⟩ := rk_mem (inK _ _ h0).1
            have := q4 q hq1
            simp [Loc.ofKey, e, hq3] at this
          rw [← hu']
          exact (World.cell?_of_block (kept _ (objOut k o hno hoo)).1).symm
      · have : OwnSl P base R' w' c2.1 u := ho.own.keep1 (fun g hg => (kept g (out g hg)).1) (fun g off hg h => (kept g (out g hg)).2 off h)
        rw [g2, f2]; exact this
      · obtain ⟨o', ho'⟩ := known k o hk
        exact ho.keys k o' ho'
  · refine List.pairwise_append.2 ⟨hv1.apart, t4.apart, fun x hx y hy g hg hg' => ?_⟩
    obtain ⟨i, hi⟩ := List.getElem?_of_mem hx
    have hil : i < own1.length := by rw [← hv1.len]; exact (List.getElem?_eq_some_iff.1 hi).1
    have hb := (hv1.one i _ x (List.getElem?_eq_getElem hil) hi).own.base_le hg
    obtain ⟨j, hj⟩ := List.getElem?_of_mem hy
    have hjl : j < rest.length := by rw [← t4.len]; exact (List.getElem?_eq_some_iff.1 hj).1
    have ho := t4.one j _ y (List.getElem?_eq_getElem hjl) hj
    rcases hb with hb | ⟨k0, o0, h0, he'⟩ | ⟨z, hz, hsp⟩
    · have := ho.own.lt hg'; omega
    · obtain ⟨o', ho', _⟩ := inst k0 o0 h0
      exact ho.keys _ o' ho' (by rw [hg', he'])
    · exact t5 z hz y hy g hsp hg'
where
  nodup_inj {α β : Type} {f : α → β} : ∀ {l : List α}, (l.map f).Nodup → ∀ {x y : α}, x ∈ l → y ∈ l → f x = f y → x = y
    | z :: l, hn, x, y, hx, hy, he => by
      simp only [List.map_cons, List.nodup_cons, List.mem_map, not_exists, not_and] at hn
      rcases List.mem_cons.1 hx with h1 | h1
      · rcases List.mem_cons.1 hy with h2 | h2
        · rw [h1, h2]
        · exact absurd (by rw [← he, h1]) (hn.1 y h2)
      · rcases List.mem_cons.1 hy with h2 | h2
        · exact absurd (by rw [he, h2]) (hn.1 x h1)
        · exact nodup_inj hn.2 h1 h2 he
  takeCls_sub {c : TypeId × List Loc} {own own1 : List (TypeId × List Loc)} (h : takeCls c own = some own1) : ∀ x ∈ own1, x ∈ own := fun x hx => by
    obtain ⟨pre, c0, post, rfl, rfl, _, _⟩ := takeCls_spec h
    simp at hx ⊢
    rcases hx with hx | hx <;> simp [hx]
  takeW_sub {s : St} : ∀ {cs own own1 : List (TypeId × List Loc)}, takeW s own cs = some own1 → ∀ x ∈ own1, x ∈ own
    | [], own, own1, h, x, hx => by simp only [takeW, Option.some.injEq] at h; subst h; exact hx
    | c :: r, own, own1, h, x, hx => by
      unfold takeW at h
      split at h
      · exact takeW_sub h x hx
      · split at h
        · rename_i own2 ht
          exact takeCls_sub ht x (takeW_sub h x hx)
        · cases h
/-- A call that hands objects on: by its contract, and what follows. -/
theorem callHK.mk {q ro : Bool} {ls : List (Option Loc)} {f : FuncId} {s0 : St} {r : DV} {H1 : List (Nat × AObj)} {own1 : List (TypeId × List Loc)} {as : List DV} {dst : Option Tmp} {all : Array Oper} {ops : List Oper} {k : List KI} {Q : Exit → St → Prop} {rest : List (TypeId × List Loc)}
    (he : Enters P f) (hch : CH P G f s0 ⟨[r], H1, own1⟩) (K : List (Nat × Nat)) (hfit : keysFit K s0 r H1 = true) (hargs : WkT as (renVs K s0.tmps)) (hH : WkH st.H (renH K s0.H)) (hown : takeW st st.own (s0.own.map (srcCls K ls)) = some rest) (harg : argOwn st.tmps.length ls s0.own = true)
    (h : VK P G (.ops q all ops :: k) .normal (afterCall K dst st rest r H1 own1) Q) (hro : ro = false := by kernel_rfl) : callHK P G q ro f as ls dst all ops k st Q := callHK.mk' ⟨_, ⟨he, CallTo.of_CH hch K hfit hargs hH hown harg⟩, h⟩ hro
/-- A call that hands on slices with their spare places. -/
theorem callK.own {q ro qn : Bool} {ls : List (Option Loc)} {f : FuncId} {s0 : St} {r : DV} {own1 : List (TypeId × List Loc)} {ds : List D} {dst : Option Tmp} {all : Array Oper} {ops : List Oper} {k : List KI} {Q : Exit → St → Prop} {rest : List (TypeId × List Loc)}
    (he : Enters P f) (hch : CH P G f s0 ⟨[r], [], own1⟩) (hfit : keysFit [] s0 r [] = true) (hargs : WkT (ds.map .d) (renVs [] s0.tmps)) (hH : WkH st.H (renH [] s0.H)) (hown : takeW st st.own (s0.own.map (srcCls [] ls)) = some rest) (harg : argOwn st.tmps.length ls s0.own = true)
    (h : VK P G (.ops q all ops :: k) .normal (afterCall [] dst st rest r [] own1) Q) (hro : ro = false := by kernel_rfl) : callK P G q ro qn f ds ls dst all ops k st Q := callK.own' ⟨_, ⟨he, CallTo.of_CH hch [] hfit hargs hH hown harg⟩, h⟩ hro
theorem repKey_same {k : Nat} {o : AObj} : ∀ {H : List (Nat × AObj)}, getKey k H = some o → repKey k o H = H
  | [], h => by simp [getKey] at h
  | (k', o') :: r, h => by
    unfold getKey at h
    unfold repKey
    split at h
    · rename_i he; cases h; subst he; simp
    · rename_i he; rw [if_neg he, repKey_same h]
theorem setKey_same {k : Nat} {o : AObj} {H : List (Nat × AObj)} (h : getKey k H = some o) : setKey k o H = H := by
  unfold setKey
  rw [h]
  exact repKey_same h
theorem setAllK_same {K : List (Nat × Nat)} : ∀ {l H : List (Nat × AObj)}, (∀ p ∈ l, getKey (rk K p.1) H = some (renO K p.2)) → setAllK K l H = H
  | [], H, _ => rfl
  | p :: r, H, h => by
    unfold setAllK
    rw [setKey_same (h p (.head _))]
    exact setAllK_same fun q hq => h q (.tail _ hq)
theorem dropKey_same {k : Nat} {ks : List Nat} {own : List (TypeId × List Loc)} (hk : k ∈ ks) (h : noOwnAt ks own = true) : dropKey k own = own := by
  unfold dropKey
  conv => rhs; rw [← List.map_id own]
  refine List.map_congr_left fun c hc => ?_
  have h1 := List.all_eq_true.1 h c hc
  have : c.2.filter (fun x => !x.ofKey k) = c.2 := List.filter_eq_self.2 fun l hl => by
    have h2 := List.all_eq_true.1 h1 l hl
    cases l with
    | t i => rfl
    | c k' off =>
      simp only [locOk, Bool.not_eq_true', List.contains_eq_mem, decide_eq_false_iff_not] at h2
      simp only [Loc.ofKey, Bool.not_eq_true', beq_eq_false_iff_ne, ne_eq]
      exact fun e => h2 (e ▸ hk)
  rw [this]; rfl
theorem dropKs_same : ∀ {K : List (Nat × Nat)} {ks : List Nat} {own : List (TypeId × List Loc)}, (∀ p ∈ K, p.2 ∈ ks) → noOwnAt ks own = true → dropKs K own = own
  | [], _, _, _, _ => rfl
  | p :: r, ks, own, h, hn => by
    unfold dropKs
    rw [dropKey_same (h p (.head _)) hn]
    exact dropKs_same (fun q hq => h q (.tail _ hq)) hn
def sameH (H : List (Nat × AObj)) : List (Nat × AObj) → Prop
  | [] => True
  | p :: r => getKey p.1 H = some p.2 ∧ sameH H r
theorem WkT_same : ∀ l : List DV, WkT l l
  | [] => trivial
  | d :: r => ⟨.inr (.inl rfl), WkT_same r⟩
theorem sameH_WkH {H : List (Nat × AObj)} : ∀ {l : List (Nat × AObj)}, sameH H l → WkH H l
  | [], _ => trivial
  | p :: r, h => ⟨⟨p.2, h.1, by cases p.2 <;> simp [WkO, WkT_same]⟩, sameH_WkH h.2⟩
theorem sameH_spec {H : List (Nat × AObj)} {K : List (Nat × Nat)} : ∀ {l : List (Nat × AObj)}, sameH H (renH K l) → ∀ p ∈ l, getKey (rk K p.1) H = some (renO K p.2)
  | q :: r, h, p, hp => by
    rcases List.mem_cons.1 hp with rfl | hp
    · exact h.1
    · exact sameH_spec h.2 p hp
theorem sameH_agree {H H' : List (Nat × AObj)} {K : List (Nat × Nat)} {ks : List Nat} (ha : ∀ k ∈ ks, getKey k H' = getKey k H) : ∀ {l : List (Nat × AObj)}, (∀ p ∈ l, rk K p.1 ∈ ks) → sameH H (renH K l) → sameH H' (renH K l)
  | [], _, _ => trivial
  | p :: r, hi, h => ⟨(ha _ (hi p (.head _))).trans h.1, sameH_agree ha (fun q hq => hi q (.tail _ hq)) h.2⟩
theorem RO.of_CH {f : FuncId} {tmps : List DV} {H0 : List (Nat × AObj)} {r : DV} {as : List DV} {H : List (Nat × AObj)} (hch : CH P G f ⟨tmps, H0, []⟩ ⟨[r], H0, []⟩) (K : List (Nat × Nat)) (hfit : keysFit K ⟨tmps, H0, []⟩ r H0 = true)
    (hargs : WkT as (renVs K tmps)) (hH : sameH H (renH K H0)) : RO P G f as (K.map (·.2)) H (renV K r) := by
  intro st hst hno dst ls
  have hin : ∀ p ∈ H0, rk K p.1 ∈ K.map (·.2) := fun p hp => by
    simp only [keysFit, Bool.and_eq_true, List.all_eq_true] at hfit
    obtain ⟨⟨⟨⟨⟨_, hh⟩, _⟩, _⟩, _⟩, _⟩ := hfit
    obtain ⟨q, q1, q2, q3⟩ := rk_mem (hh p hp).1.1
    rw [q3]
    exact List.mem_map_of_mem q1
  have hH : sameH st.H (renH K H0) := sameH_agree hst hin hH
  have h := CallTo.of_CH (st := st) (dst := dst) (ls := ls) hch K hfit hargs (sameH_WkH hH) (rest := st.own) rfl rfl
  have he : afterCall K dst st st.own r H0 [] = finish st dst (renV K r) .no := by
    unfold afterCall
    rw [setAllK_same (sameH_spec hH), dropKs_same (ks := K.map (·.2)) (fun p hp => List.mem_map_of_mem hp) hno]
    cases dst <;> rfl
  rw [← he]
  exact h
/-- A call that reads objects, and leaves them as they are. -/
theorem callHK.ro {q ro : Bool} {ls : List (Option Loc)} {f : FuncId} {tmps : List DV} {H0 : List (Nat × AObj)} {r : DV} {as : List DV} {dst : Option Tmp} {all : Array Oper} {ops : List Oper} {k : List KI} {Q : Exit → St → Prop}
    (he : Enters P f) (hch : CH P G f ⟨tmps, H0, []⟩ ⟨[r], H0, []⟩) (K : List (Nat × Nat)) (hfit : keysFit K ⟨tmps, H0, []⟩ r H0 = true) (hargs : WkT as (renVs K tmps)) (hH : sameH st.H (renH K H0)) (hno : noOwnAt (K.map (·.2)) st.own = true) (hks : ((K.map (·.2)).all fun k => (getKey k st.H).isSome) = true)
    (h : VK P G (.ops q all ops :: k) .normal (finish st dst (renV K r) .no) Q) (hkl : keyless (renV K r) = true := by rfl) : callHK P G q ro f as ls dst all ops k st Q := callHK.ro' he (RO.of_CH hch K hfit hargs hH) hno hks hkl h
end
attribute [simp] srcLoc srcCls argOwn sameH noOwnAt locOk afterCall renV renVs rk renO renH renLoc renCls dropKs setAllK putRes dropDst takeW keysFit keysOk keysOks keysOkO noTmp retSt retLoc endOk resultV resV
end Go.VM
end

section
set_option linter.unusedVariables false
set_option linter.unusedSimpArgs false
set_option linter.unusedSectionVars false
namespace Go.VM
open Go Go.RowKit
mutual
def frzV (k : Nat) (ds : List D) : DV → DV
  | .ptr k' off => if k' = k then .ep (ds.drop off) else .ptr k' off
  | .clo f cs => .clo f (frzVs k ds cs)
  | .ag cs => .ag (frzVs k ds cs)
  | d => d
def frzVs (k : Nat) (ds : List D) : List DV → List DV
  | [] => []
  | d :: r => frzV k ds d :: frzVs k ds r
end
def frzO (k : Nat) (ds : List D) : AObj → AObj
  | .cells cs => .cells (frzVs k ds cs)
  | o => o
def frzH (k : Nat) (ds : List D) : List (Nat × AObj) → List (Nat × AObj)
  | [] => []
  | (k', o) :: r => if k' = k then frzH k ds r else (k', frzO k ds o) :: frzH k ds r
theorem frzVs_eq (k : Nat) (ds : List D) : ∀ l, frzVs k ds l = l.map (frzV k ds)
  | [] => by simp [frzVs]
  | d :: r => by simp [frzVs, frzVs_eq k ds r]
theorem frzV_cell (k : Nat) (ds : List D) (d : DV) : (frzV k ds d).cell = d.cell := by
  cases d <;> simp only [frzV] <;> try rfl
  split <;> rfl
theorem getKey_frz {k k' : Nat} {ds : List D} {o : AObj} : ∀ {H : List (Nat × AObj)}, getKey k' (frzH k ds H) = some o → k' ≠ k ∧ ∃ o0, getKey k' H = some o0 ∧ o = frzO k ds o0
  | [], h => by simp [frzH, getKey] at h
  | (k1, o1) :: r, h => by
    unfold frzH at h
    split at h
    · rename_i he
      subst he
      obtain ⟨h1, o0, h2, h3⟩ := getKey_frz h
      refine ⟨h1, o0, ?_, h3⟩
      unfold getKey
      rw [if_neg (Ne.symm h1)]
      exact h2
    · rename_i he
      unfold getKey at h ⊢
      split at h
      · rename_i hk
        subst hk
        simp only [Option.some.injEq] at h
        exact ⟨he, o1, by rw [if_pos rfl], h.symm⟩
      · rename_i hk
        obtain ⟨h1, o0, h2, h3⟩ := getKey_frz h
        exact ⟨h1, o0, by rw [if_neg hk]; exact h2, h3⟩
theorem getKey_frz_mk {k k' : Nat} {ds : List D} (hne : k' ≠ k) {o : AObj} : ∀ {H : List (Nat × AObj)}, getKey k' H = some o → ∃ o', getKey k' (frzH k ds H) = some o'
  | [], h => by simp [getKey] at h
  | (k1, o1) :: r, h => by
    unfold getKey at h
    unfold frzH
    split at h
    · rename_i hk
      subst hk
      rw [if_neg hne]
      exact ⟨_, by unfold getKey; rw [if_pos rfl]⟩
    · rename_i hk
      obtain ⟨o', h'⟩ := getKey_frz_mk (ds := ds) hne h
      split
      · exact ⟨o', h'⟩
      · exact ⟨o', by unfold getKey; rw [if_neg hk]; exact h'⟩
section
variable {P : Program} {G : GT} {st : St} {base : Base} {R : Nat → Nat → Prop} {μ : Nat → Nat} {a : Act} {w : World}
theorem TV.frz {k : Nat} {ds : List D} (hr : Run R w (μ k) 0 ds) {v : Value} {d : DV} (h : TV R μ w v d) : TV R μ w v (frzV k ds d) := by
  induction h with
  | d v x h => exact .d v x h
  | undef v => exact .undef v
  | ptr k' off =>
    simp only [frzV]
    split
    · rename_i he
      subst he
      refine .ep _ _ _ fun j x hj => ?_
      rw [List.getElem?_drop] at hj
      have := hr (off + j) x hj
      rwa [Nat.zero_add] at this
    · exact .ptr k' off
  | ep b o cs h => exact .ep b o cs h
  | mp k => exact .mp k
  | it k => exact .it k
  | tup vs ds h1 h2 => exact .tup vs ds h1 h2
  | fn f => exact .fn f
  | anyb b => exact .anyb b
  | nilp T => exact .nilp T
  | clo f vs cs h1 h2 ih =>
    simp only [frzV, frzVs_eq]
    refine .clo f vs _ (by simpa using h1) fun i c hi => ?_
    rw [List.getElem?_map] at hi
    obtain ⟨c0, hc0, rfl⟩ := Option.map_eq_some_iff.1 hi
    exact ih i c0 hc0
  | ag vs cs h1 h2 h3 h4 ih =>
    simp only [frzV, frzVs_eq]
    refine .ag vs _ (by simpa using h1) (fun i hi => h2 i (by simpa using hi)) (fun i c hi => ?_) fun i c hi => ?_
    · rw [List.getElem?_map] at hi
      obtain ⟨c0, hc0, rfl⟩ := Option.map_eq_some_iff.1 hi
      rw [frzV_cell]; exact h3 i c0 hc0
    · rw [List.getElem?_map] at hi
      obtain ⟨c0, hc0, rfl⟩ := Option.map_eq_some_iff.1 hi
      exact ih i c0 hc0
theorem allD_get : ∀ {cs : List DV} {ds : List D}, allD cs = some ds → ds.length = cs.length ∧ ∀ (j : Nat) (x : D), ds[j]? = some x → cs[j]? = some (.d x)
  | [], ds, h => by simp [allD] at h; subst h; simp
  | .d y :: l, ds, h => by
    simp only [allD] at h
    split at h
    · rename_i ds' hd
      cases h
      obtain ⟨h1, h2⟩ := allD_get hd
      refine ⟨by simp [h1], fun j x hj => ?_⟩
      cases j with
      | zero => simp at hj; subst hj; rfl
      | succ j => exact h2 j x (by simpa using hj)
    · cases h
  | .undef :: _, ds, h => by simp [allD] at h
  | .ptr _ _ :: _, ds, h => by simp [allD] at h
  | .ep _ :: _, ds, h => by simp [allD] at h
  | .mp _ :: _, ds, h => by simp [allD] at h
  | .it _ :: _, ds, h => by simp [allD] at h
  | .tup _ :: _, ds, h => by simp [allD] at h
  | .fn _ :: _, ds, h => by simp [allD] at h
  | .anyb :: _, ds, h => by simp [allD] at h
  | .nilp _ :: _, ds, h => by simp [allD] at h
  | .clo _ _ :: _, ds, h => by simp [allD] at h
  | .ag _ :: _, ds, h => by simp [allD] at h
/-- An object of data becomes settled cells. -/
theorem Rel.freeze (hr : Rel P G base R μ st a w) {k : Nat} {cs : List DV} {ds : List D} (hk : getKey k st.H = some (.cells cs)) (hd : allD cs = some ds) (hno : noOwnAt [k] st.own = true) :
    ∃ R', Rel P G base R' μ ⟨frzVs k ds st.tmps, frzH k ds st.H, st.own⟩ a w ∧ Step base R w R' w := by
  obtain ⟨b1, b2, vs0, T, b3, b4, b5, _⟩ := hr.objs k _ hk
  obtain ⟨d1, d2⟩ := allD_get hd
  have hlt : μ k < w.heap.size := (Array.getElem?_eq_some_iff.1 b3).1
  let R' : Nat → Nat → Prop := fun b o => R b o ∨ (b = μ k ∧ o < ds.length)
  have hs : Step base R w R' w := ⟨Keep.refl _ _, fun _ _ h => .inl h, fun b o h hn => by
    rcases h with h | ⟨rfl, _⟩
    · exact absurd h hn
    · exact b1, fun _ _ _ => rfl⟩
  have hrun : Run R' w (μ k) 0 ds := fun j x hj => by
    have hc := d2 j x hj
    have hjl : j < ds.length := (List.getElem?_eq_some_iff.1 hj).1
    obtain ⟨q1, q2⟩ := b5 j _ hc
    have hv : w.cell? ⟨μ k, 0 + j, none⟩ = some (vs0.getD j undef) := by
      unfold World.cell?
      rw [b3, Nat.zero_add]
      have : j < vs0.size := by omega
      simp [this]
    exact ⟨q1, .inr ⟨rfl, by omega⟩, _, hv, (q2.of_step hs).dinv⟩
  have hne : ∀ k' o, getKey k' st.H = some o → k' ≠ k → μ k' ≠ μ k := fun k' o h hn he => hn (hr.inj k' k o _ h hk he)
  obtain ⟨vs, hvs⟩ := hr.own
  refine ⟨R', ⟨hr.defers, by rw [hr.size, frzVs_eq]; simp, fun i v d hv hd' => ?_, fun k' o hk' => ?_, fun k1 k2 o1 o2 h1 h2 he => ?_, fun c hc k' off hl => ?_, ⟨vs, hvs.len, fun i c v hc hv => ?_, hvs.apart⟩, hr.glob.of_step hs, fun b o h => ?_, hr.base, hr.pass⟩, hs⟩
  · simp only [frzVs_eq, List.getElem?_map] at hd'
    obtain ⟨d0, hd0, rfl⟩ := Option.map_eq_some_iff.1 hd'
    exact ((hr.tmps i v d0 hv hd0).of_step hs).frz hrun
  · obtain ⟨n1, o0, n2, rfl⟩ := getKey_frz hk'
    obtain ⟨p1, p2, p3⟩ := hr.objs k' o0 n2
    refine ⟨p1, fun off h => ?_, ?_⟩
    · rcases h with h | ⟨h, _⟩
      · exact p2 off h
      · exact hne k' o0 n2 n1 h
    · have p4 := p3.of_step hs rfl
      cases o0 with
      | cells cs' =>
        obtain ⟨vs', T', h1, h2, h3, h4⟩ := p4
        refine ⟨vs', T', h1, by rw [frzVs_eq]; simpa using h2, fun i d hi => ?_, fun T1 hm => ?_⟩
        · rw [frzVs_eq, List.getElem?_map] at hi
          obtain ⟨c0, hc0, rfl⟩ := Option.map_eq_some_iff.1 hi
          obtain ⟨q1, q2⟩ := h3 i c0 hc0
          exact ⟨by rw [frzV_cell]; exact q1, q2.frz hrun⟩
        · rw [frzVs_eq] at hm
          obtain ⟨c0, hc0, he⟩ := List.mem_map.1 hm
          cases c0 <;> simp only [frzV] at he
          case nilp => cases he; exact h4 _ hc0
          case ptr => split at he <;> cases he
          all_goals cases he
      | map es => exact p4
      | iter s p => exact p4
      | bld T u es => exact p4
  · obtain ⟨_, o1', h1', _⟩ := getKey_frz h1
    obtain ⟨_, o2', h2', _⟩ := getKey_frz h2
    exact hr.inj k1 k2 o1' o2' h1' h2' he
  · obtain ⟨o, ho⟩ := hr.locs c hc k' off hl
    have hn : k' ≠ k := fun e => by
      have h1 := List.all_eq_true.1 (List.all_eq_true.1 hno c hc) _ hl
      simp [locOk, e] at h1
    exact getKey_frz_mk hn ho
  · have ho := hvs.one i c v hc hv
    refine ⟨ho.locs, ?_, fun k' o hk' => ?_⟩
    · rcases ho.own with h | ⟨g, n, cap, cur, h0, h1, h2, h3, h4, h5, h6⟩
      · exact .inl h
      · by_cases hc0 : cap = 0
        · subst hc0
          have : n = 0 := by omega
          subst this
          exact .inl ⟨_, h0⟩
        · refine .inr ⟨g, n, cap, cur, h0, h1, h2, h3, h4, h5, fun off hoff h => ?_⟩
          rcases h with h | ⟨h, _⟩
          · exact h6 off hoff h
          · have := ho.keys k _ hk
            rw [h0, ← h] at this
            simp [spareBlk, hc0] at this
    · obtain ⟨_, o0, h1, _⟩ := getKey_frz hk'
      exact ho.keys k' o0 h1
  · rcases h with h | ⟨rfl, _⟩
    · exact hr.rset b o h
    · exact hlt
/-- A contract's new object is settled. -/
theorem CH.frz {f : FuncId} {s0 : St} {r : DV} {H1 : List (Nat × AObj)} {own1 : List (TypeId × List Loc)} (h : CH P G f s0 ⟨[r], H1, own1⟩) (k : Nat) {cs : List DV} {ds : List D} (hk : getKey k H1 = some (.cells cs)) (hd : allD cs = some ds) (hno : noOwnAt [k] own1 = true) :
    CH P G f s0 ⟨[frzV k ds r], frzH k ds H1, own1⟩ := fun base R μ args w hr => (h base R μ args w hr).mono fun _ _ ⟨v, R', μ', he, hr', hs⟩ => by
  obtain ⟨R2, h2, hs2⟩ := hr'.freeze hk hd hno
  exact ⟨v, R2, μ', he, h2, hs.trans hs2⟩
mutual
theorem renV_nil : ∀ d : DV, renV [] d = d
  | .ptr k o => rfl
  | .mp k => rfl
  | .it k => rfl
  | .clo f cs => by simp only [renV]; rw [renVs_nil cs]
  | .ag cs => by simp only [renV]; rw [renVs_nil cs]
  | .d _ => rfl
  | .undef => rfl
  | .ep _ => rfl
  | .tup _ => rfl
  | .fn _ => rfl
  | .anyb => rfl
  | .nilp _ => rfl
theorem renVs_nil : ∀ l : List DV, renVs [] l = l
  | [] => rfl
  | d :: r => by simp only [renVs]; rw [renV_nil d, renVs_nil r]
end
/-- A contract of data, from one with objects: the result names none. -/
theorem CS.of_CH {f : FuncId} {ds : List D} {r : DV} (h : CH P G f ⟨ds.map .d, [], []⟩ ⟨[r], [], []⟩) (hr : keysOk [] r = true) : CS P G f ds r none := by
  intro w R args hg hR hl hv
  have hrel : Rel P G (From w.heap.size) R (fun _ => 0) ⟨ds.map .d, [], []⟩ { tmps := args, defers := [] } w := by
    refine ⟨rfl, by simpa using hl, fun i v d hiv hid => ?_, fun k o hk => by simp [getKey] at hk, fun k k' o o' hk => by simp [getKey] at hk, fun c hc => by simp at hc, ⟨[], rfl, fun i c v hc => by simp at hc, .nil⟩, hg, hR, fun _ h => h, fun _ _ => rfl⟩
    simp only [List.getElem?_map] at hid
    obtain ⟨x, hx, rfl⟩ := Option.map_eq_some_iff.1 hid
    have := hv i x hx
    have he : args.getD i undef = v := by
      simp only at hiv
      simp [Array.getD_eq_getD_getElem?, hiv]
    rw [he] at this
    exact .d _ _ this
  refine (h _ R _ args w hrel).mono fun e w' ⟨v, R', μ', he, hr', hs⟩ => ⟨v, R', he, fun μ => ?_, hs, hr'.rset, fun e he => by cases he⟩
  have := (hr'.tmps 0 v r rfl rfl).unren (μ := μ) (K := []) (fun k hk => by simp at hk) hr
  rwa [renV_nil] at this
/-- A contract of data that gives a closure or the like, shown by a run: the objects that it names are settled. -/
theorem CH.done {f : FuncId} {s0 : St} {r r' : DV} {H1 : List (Nat × AObj)} {own1 : List (TypeId × List Loc)} (h : CH P G f s0 ⟨[r], H1, own1⟩) (e : r = r') : CH P G f s0 ⟨[r'], H1, own1⟩ := e ▸ h
end
attribute [simp] frzV frzVs frzO frzH
end Go.VM
end
