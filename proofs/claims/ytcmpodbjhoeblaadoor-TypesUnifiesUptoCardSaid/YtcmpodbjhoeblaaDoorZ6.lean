/- Joined texts. The abstract machine on plain data: the library's contracts. The abstract machine on plain data: a contract with objects, shown by a run; and what it is to a caller. The abstract machine on plain data: what a contract with objects is to a caller. The abstract machine on plain data: a call that hands objects on. The abstract machine on plain data: a run of it on given data and objects, by the kernel: what it gives is what the function answers. No condition. -/
import Derived.Test.YtcmpodbjhoeblaaDoorZ3
import Derived.Lib.ItoaNum
import Derived.Lib.LaidTab
import Derived.WalkSmall
import Derived.Deep.Draws
import Derived.Lib.Join
import Derived.Sort.Grow
section
set_option linter.unusedVariables false
set_option linter.unusedSimpArgs false
set_option linter.unusedSectionVars false
namespace Go.VM
open Go Go.RowKit Go.Sort

section
variable {P : Program} {G : GT}
/-- A library function that only lays new blocks. -/
theorem CS.ofLib {f : FuncId} {ds : List D} {r : D} (h : ∀ (w : World) (R : Nat → Nat → Prop) (args : Array Value), Glob G (From w.heap.size) R w → (∀ b o, R b o → b < w.heap.size) → args.size = ds.length → (∀ (i : Nat) (d : D), ds[i]? = some d → V R w (args.getD i undef) d) →
    Calls P f args w fun e w' => ∃ v, e = .returned v ∧ V R w' v r ∧ Below w.heap.size w w') : CS P G f ds (.d r) none := fun w R args hg hR hl hv =>
  (h w R args hg hR hl hv).mono fun e w' ⟨v, he, hr, hb⟩ => ⟨v, R, he, fun _ => .d _ _ hr, ⟨.of_below hb, fun _ _ h => h, fun _ _ h h' => absurd h h', fun b o hbo => hb.cell (hR b o hbo)⟩, fun b o hbo => Nat.lt_of_lt_of_le (hR b o hbo) hb.size, fun _ he => by cases he⟩

theorem Run.intCells {R : Nat → Nat → Prop} {w : World} {g : Nat} {k : IntKind} {zs : List Int} {arr : Array Value} {T : TypeId} {fr : Nat × Nat} (h : Run R w g 0 (zs.map (.int k))) (hb : w.heap[g]? = some (.cells arr T fr)) (hs : arr.size = zs.length) : arr = (zs.map fun z => Value.int k z).toArray := by
  apply Array.ext
  · simp [hs]
  · intro i h1 h2
    simp at h2
    obtain ⟨_, _, v, hc, hv⟩ := h i (.int k zs[i]) (by simp [h2])
    have hv := hv.int_inv
    subst hv
    unfold World.cell? at hc
    simp only [hb] at hc
    simp [h1] at hc
    simp [hc]
/-- A table of integers that is a package-level variable. -/
theorem Glob.tab {R : Nat → Nat → Prop} {w : World} {base : Base} (h : Glob G base R w) {g : Nat} {name : String} {k : IntKind} {zs : List Int} (hg : P.globalNamed name = some g) (hG : G g = some (zs.map (.int k))) : Lib.TabIs P w name k zs := by
  obtain ⟨h1, _, arr, T, fr, h3, h4⟩ := h g _ hG
  unfold Lib.TabIs World.var?
  rw [hg]
  simp only [Option.bind_some, h3]
  rw [h1.intCells h3 (by simpa using h4)]
theorem below_grow {w w' : World} {k : Nat} {os : Array Obj} (h : w' = grow (w.drewN k) os) : Below w.heap.size w w' := by
  subst h
  refine ⟨rfl, rfl, rfl, by simp [grow, World.drewN], fun i hi => ?_⟩
  simp only [grow, World.drewN]
  rw [Array.getElem?_append_left hi]

/-- A number's digits, by a bound on their number. -/
def digF : Nat → Nat → List UInt8
  | 0, _ => []
  | n + 1, u => if u < 10 then [UInt8.ofNat (48 + u)] else digF n (u / 10) ++ [UInt8.ofNat (48 + u % 10)]
theorem digF_eq : ∀ (n u : Nat), u < 10 ^ (n + 1) → digF (n + 1) u = Lib.decDigits u
  | 0, u, h => by
    have hu : u < 10 := by simpa using h
    unfold digF Lib.decDigits
    rw [if_pos hu, dif_pos hu]
  | n + 1, u, h => by
    unfold digF Lib.decDigits
    by_cases hu : u < 10
    · rw [if_pos hu, dif_pos hu]
    · rw [if_neg hu, dif_neg hu]
      rw [digF_eq n (u / 10) (by rw [Nat.div_lt_iff_lt_mul (by omega)]; simpa [Nat.pow_succ] using h)]
def itoaF (n : Int) : List UInt8 := if n < 0 then 45 :: digF 20 n.natAbs else digF 20 n.toNat
theorem itoaF_eq {n : Int} (h0 : -9223372036854775808 ≤ n) (h1 : n ≤ 9223372036854775807) : itoaF n = Lib.itoa n := by
  unfold itoaF Lib.itoa
  rw [digF_eq 19 n.natAbs (by simp; omega), digF_eq 19 n.toNat (by simp; omega)]

/-- strings.Join, from the kit's contract. -/
theorem join_cs {f : FuncId} {xs : List (List UInt8)} {sep : List UInt8}
    (h0 : ∀ (a : Option Addr) (c : Nat) (sep : ByteArray) (w : World), Calls P f #[.slice a 0 c, .string sep] w fun e w' => e = .returned (.string ⟨#[]⟩) ∧ w' = w)
    (h1 : ∀ (bk o c : Nat) (xs : List ByteArray) (sep : ByteArray) (w : World), (∀ (j : Nat) x, xs[j]? = some x → w.cell? ⟨bk, o + j, none⟩ = some (.string x)) → bk < w.heap.size → xs.length ≤ 140737488355328 → xs.length ≤ c → (Lib.join (xs.map (·.data.toList)) sep.data.toList).length ≤ 140737488355328 →
      Calls P f #[.slice (some ⟨bk, o, none⟩) xs.length c, .string sep] w fun e w' => e = .returned (.string ⟨(Lib.join (xs.map (·.data.toList)) sep.data.toList).toArray⟩) ∧ Below w.heap.size w w')
    (hl : xs.length ≤ 140737488355328) (hj : (Lib.join xs sep).length ≤ 140737488355328) : CS P G f [.sl (xs.map fun s => [.str s]), .str sep] (.d (.str (Lib.join xs sep))) none := by
  refine CS.ofLib fun w R args hg hR hs hv => ?_
  have ha : args = #[args.getD 0 undef, args.getD 1 undef] := by
    obtain ⟨l⟩ := args
    match l, hs with
    | [a, b], _ => rfl
  have e1 := (hv 1 _ rfl).str_inv
  have e0 := hv 0 _ rfl
  have nix : ∀ a c, xs = [] → args = #[.slice a 0 c, .string ⟨sep.toArray⟩] → Calls P f args w fun e w' => ∃ v, e = .returned v ∧ V R w' v (.str (Lib.join xs sep)) ∧ Below w.heap.size w w' := fun a c hx ha' => by
    rw [ha', hx, Lib.join_nil]
    exact (h0 a c _ w).mono fun e w' ⟨he, hw⟩ => ⟨_, he, .str [], hw ▸ Below.refl _ _⟩
  generalize args.getD 0 undef = v0 at *
  rw [e1] at ha
  generalize hes : (xs.map fun s => [D.str s]) = es0 at e0
  cases e0 with
  | emp ao cap => exact nix ao cap (by simpa using hes) ha
  | sl b o n cap size es g q1 q2 q3 q4 q5 q6 q7 =>
    subst hes
    by_cases hx : xs = []
    · have : n = 0 := by rw [q1, hx]; rfl
      subst this
      exact nix _ cap hx ha
    · have hn : n = xs.length := by rw [q1]; simp
      have hsz : size = 1 := by
        cases xs with
        | nil => exact absurd rfl hx
        | cons x r => exact (q4 [.str x] (by simp)).symm
      subst hsz
      have hc : ∀ (j : Nat) (x : List UInt8), xs[j]? = some x → R b (o + j) ∧ w.cell? ⟨b, o + j, none⟩ = some (.string ⟨x.toArray⟩) := fun j x hj => by
        have hjl : j < n := by rw [hn]; exact (List.getElem?_eq_some_iff.1 hj).1
        obtain ⟨r1, r2⟩ := q5 j 0 hjl (by omega)
        have := q7 j 0 [.str x] (.str x) (by rw [List.getElem?_map, hj]; rfl) rfl
        simp only [Nat.mul_one, Nat.add_zero] at r1 r2
        rw [this.str_inv] at r2
        exact ⟨r1, r2⟩
      have hb : b < w.heap.size := by
        cases xs with
        | nil => exact absurd rfl hx
        | cons x r => exact hR b _ (hc 0 x rfl).1
      have key := h1 b o cap (xs.map fun s => ⟨s.toArray⟩) ⟨sep.toArray⟩ w (fun j x hj => by
        rw [List.getElem?_map] at hj
        obtain ⟨y, hy, rfl⟩ := Option.map_eq_some_iff.1 hj
        exact (hc j y hy).2) hb (by simpa using hl) (by simp; omega) (by simpa [List.map_map, Function.comp_def] using hj)
      simp only [List.length_map, List.map_map, Function.comp_def] at key
      rw [ha, hn]
      have hid : List.map (fun x : List UInt8 => x) xs = xs := by simp
      simp only [hid] at key
      exact key.mono fun e w' ⟨he, hw⟩ => ⟨_, he, .str _, hw⟩
end
end Go.VM
end

section
set_option linter.unusedVariables false
set_option linter.unusedSimpArgs false
set_option linter.unusedSectionVars false
namespace Go.VM
open Go Go.RowKit

section
variable {P : Program} {G : GT} {st : St} {base : Base} {R : Nat → Nat → Prop} {μ : Nat → Nat} {a : Act} {w : World}

/-! ### Results -/
def resV (P : Program) (s : St) : ResultVar → Option DV
  | .tmp i => some (s.tmps.getD i (.tup []))
  | .cell p ty => match s.tmps.getD p (.tup []) with
    | .ptr k off => (match getKey k s.H with
      | some (.cells cs) => takeV P ty (cs.drop off)
      | _ => none)
    | _ => none
def resultV (P : Program) (s : St) (rs : List ResultVar) : Option DV := match rs with
  | [r] => resV P s r
  | rs => (resDs P s rs).map .tup
theorem resV_ok (hr : Rel P G base R μ st a w) {r : ResultVar} {x : DV} (h : resV P st r = some x) : ∃ v, (resVal a.tmps r).run P w = .ok v w ∧ TV R μ w v x := by
  cases r with
  | tmp i =>
    simp only [resV, Option.some.injEq] at h
    subst h
    have he := hr.eval (.tmp i)
    simp only [St.eval, Act.eval] at he
    exact ⟨_, rfl, he⟩
  | cell p ty =>
    simp only [resV] at h
    have he := hr.eval (.tmp p)
    simp only [St.eval, Act.eval] at he
    split at h
    · rename_i k off hp
      split at h
      · rename_i cs hk
        rw [hp] at he
        obtain ⟨_, _, hob⟩ := hr.objs k _ hk
        have hrun := (RunV.of_obj hob).drop off
        rw [Nat.zero_add] at hrun
        obtain ⟨v, h1, h2, _⟩ := run_loadVar_runV (P := P) hrun h
        refine ⟨v, ?_, h2⟩
        unfold resVal
        simp only
        rw [he.ptr_inv]
        simp only [asAddr, Sem.run_bind, Sem.run_pure, Result.andThen_ok, h1]
      · cases h
    · cases h
theorem resultV_ok (hr : Rel P G base R μ st a w) {fn : Func} {r : DV} (h : resultV P st fn.results.toList = some r) : ∃ v, (results fn a.tmps).run P w = .ok v w ∧ TV R μ w v r := by
  unfold resultV at h
  split at h
  · rename_i r0 hrs
    obtain ⟨v, h1, h2⟩ := resV_ok hr h
    refine ⟨v, ?_, h2⟩
    rw [results_eq, Array.mapM_eq_mapM_toList, hrs]
    simp [h1]
  · rename_i hne
    obtain ⟨ds, hds, rfl⟩ := Option.map_eq_some_iff.1 h
    obtain ⟨vs, h1, h2, h3⟩ := resDs_ok hr hds
    have hl : vs.length ≠ 1 := fun e => by
      have : ds.length = 1 := by omega
      have hrl : fn.results.toList.length = 1 := by rw [← resDs_len hds]; exact this
      match hq : fn.results.toList, hrl with
      | [x], _ => exact hne x hq
    refine ⟨.tuple vs.toArray, ?_, .tup _ _ (by simpa using h2) (fun i d hi => by have := h3 i d hi; simpa [Array.getD_eq_getD_getElem?, List.getD] using this)⟩
    rw [results_eq, Array.mapM_eq_mapM_toList]
    simp only [Sem.run_bind, Sem.run_map, h1, Result.andThen_ok, Sem.run_pure]
    rw [dif_neg (by simpa using hl)]
where resDs_len {P : Program} {s : St} : ∀ {l : List ResultVar} {ds : List D}, resDs P s l = some ds → ds.length = l.length
  | [], ds, h => by simp [resDs] at h; subst h; rfl
  | r :: l, ds, h => by
    simp only [resDs] at h
    split at h
    · rename_i x ds' _ h'
      simp at h; subst h
      simp [resDs_len h']
    · cases h

/-- What a caller keeps of the last state: the result, the objects, what is owned. -/
def retLoc (n : Nat) (rs : List ResultVar) : Loc → Option Loc
  | .t j => match rs with
    | [.tmp i] => if i = j ∧ j < n then some (.t 0) else none
    | _ => none
  | .c k off => some (.c k off)
def retSt (s : St) (rs : List ResultVar) (r : DV) : St := ⟨[r], s.H, s.own.map fun c => (c.1, c.2.filterMap (retLoc s.tmps.length rs))⟩
def endOk (P : Program) (s : St) (rs : List ResultVar) (s1 : St) : Prop := match resultV P s rs with
  | some r => Weak (retSt s rs r) s1
  | none => False
theorem Rel.ret (hr : Rel P G base R μ st a w) {fn : Func} {r : DV} {v : Value} (hv : (results fn a.tmps).run P w = .ok v w) (ht : TV R μ w v r) : Rel P G base R μ (retSt st fn.results.toList r) { tmps := #[v], defers := [] } w := by
  refine ⟨rfl, rfl, fun i u d hu hd => ?_, hr.objs, hr.inj, fun c hc k off hl => ?_, ?_, hr.glob, hr.rset, hr.base, hr.pass⟩
  · simp only [retSt] at hd
    cases i with
    | zero => simp at hu hd; subst hu hd; exact ht
    | succ i => simp at hd
  · simp only [retSt, List.mem_map] at hc
    obtain ⟨c0, hc0, rfl⟩ := hc
    simp only [List.mem_filterMap] at hl
    obtain ⟨l0, hl0, he⟩ := hl
    cases l0 with
    | t j =>
      simp only [retLoc] at he
      split at he
      · split at he <;> cases he
      · cases he
    | c k' off' => simp only [retLoc, Option.some.injEq] at he; cases he; exact hr.locs c0 hc0 k off hl0
  · obtain ⟨vs, hl, h1, hap⟩ := hr.own
    refine ⟨vs, by simpa [retSt] using hl, fun i c u hc hu => ?_, hap⟩
    simp only [retSt, List.getElem?_map] at hc
    obtain ⟨c0, hc0, rfl⟩ := Option.map_eq_some_iff.1 hc
    have ho := h1 i c0 u hc0 hu
    refine ⟨fun l hl u' hu' => ?_, ho.own, ho.keys⟩
    simp only [List.mem_filterMap] at hl
    obtain ⟨l0, hl0, he⟩ := hl
    cases l0 with
    | t j =>
      simp only [retLoc] at he
      split at he
      · rename_i i' hrs
        split at he
        · rename_i hij
          cases he
          obtain ⟨rfl, hlt⟩ := hij
          simp [locVal] at hu'
          subst hu'
          have hrs' : fn.results = #[.tmp i'] := by
            apply Array.ext'
            simpa using hrs
          rw [results_tmp hrs' a.tmps P w] at hv
          cases hv
          have hlt' : i' < a.tmps.size := by rw [hr.size]; exact hlt
          exact ho.locs _ hl0 _ (by simp [locVal, hlt'])
        · cases he
      · cases he
    | c k' off' => simp only [retLoc, Option.some.injEq] at he; subst he; exact ho.locs _ hl0 u' hu'

/-- A contract with objects, from what the code comes to. -/
theorem CH.of_SW {f : FuncId} {fn : Func} {c : Code} {n : Nat} {s0 s1 : St} (hf : P.funcs[f]? = some fn) (hb : fn.body = some c) (hn : fn.ntmps = n) {rs : List ResultVar} (hrs : fn.results.toList = rs)
    (hT : (s0.own.all fun c => c.2.all fun l => match l with | .t i => decide (i < s0.tmps.length) | _ => true) = true)
    (h : SW P G c ⟨s0.tmps ++ List.replicate (n - s0.tmps.length) (.tup []), s0.H, s0.own⟩ fun e s => (e = .normal ∨ e = .ret) ∧ endOk P s rs s1) : CH P G f s0 s1 := by
  subst hrs
  intro base R μ args w hr
  refine calls_of_wp hf hb ?_
  have hsz : args.size = s0.tmps.length := hr.size
  have hrel : Rel P G base R μ ⟨s0.tmps ++ List.replicate (n - s0.tmps.length) (.tup []), s0.H, s0.own⟩ { tmps := args ++ Array.replicate (fn.ntmps - args.size) undef, defers := [] } w := by
    refine ⟨rfl, by simp [hsz, hn], fun i v d hiv hid => ?_, hr.objs, hr.inj, hr.locs, ?_, hr.glob, hr.rset, hr.base, hr.pass⟩
    · simp only at hid
      by_cases hi : i < s0.tmps.length
      · rw [List.getElem?_append_left hi] at hid
        rw [Array.getElem?_append_left (by omega)] at hiv
        exact hr.tmps i v d hiv hid
      · rw [List.getElem?_append_right (by omega), List.getElem?_replicate] at hid
        split at hid <;> simp at hid
        subst hid
        rw [Array.getElem?_append_right (by omega), Array.getElem?_replicate] at hiv
        split at hiv <;> simp at hiv
        subst hiv
        exact .tup #[] [] rfl (by simp)
    · obtain ⟨vs, hl, h1, hap⟩ := hr.own
      refine ⟨vs, hl, fun i c v hc hv => ?_, hap⟩
      have ho := h1 i c v hc hv
      refine ⟨fun l hl u hu => ?_, ho.own, ho.keys⟩
      cases l with
      | t j =>
        have hj := List.all_eq_true.1 (List.all_eq_true.1 hT c (List.mem_of_getElem? hc)) _ hl
        simp only [decide_eq_true_eq] at hj
        simp only [locVal] at hu
        rw [Array.getElem?_append_left (by omega)] at hu
        exact ho.locs _ hl u hu
      | c k off => exact ho.locs _ hl u hu
  refine wp_mono (h base R μ _ w hrel) fun e a' w' ⟨s, R', μ', ⟨he, hend⟩, hr', hs⟩ => ?_
  unfold endOk at hend
  split at hend
  · rename_i r hres
    obtain ⟨v, hv1, hv2⟩ := resultV_ok hr' hres
    have hpost : a'.defers = [] ∧ ∃ v, (results fn a'.tmps).run P w' = .ok v w' ∧ ∃ v' R' μ', Ending.returned v = .returned v' ∧ Rel P G base R' μ' s1 { tmps := #[v'], defers := [] } w' ∧ Step base R w R' w' :=
      ⟨hr'.defers, v, hv1, v, R', μ', rfl, (hr'.ret hv1 hv2).weak hend, hs⟩
    rcases he with rfl | rfl
    · exact hpost
    · exact hpost
  · exact hend.elim
/-- A CONTRACT WITH OBJECTS, SHOWN BY A RUN. -/
theorem CH.of_VK {f : FuncId} {fn : Func} {c : Code} {n : Nat} {s0 s1 : St} (hf : P.funcs[f]? = some fn) (hb : fn.body = some c) (hn : fn.ntmps = n) {rs : List ResultVar} (hrs : fn.results.toList = rs)
    (hT : (s0.own.all fun c => c.2.all fun l => match l with | .t i => decide (i < s0.tmps.length) | _ => true) = true)
    (h : VK P G [.code c] .normal ⟨s0.tmps ++ List.replicate (n - s0.tmps.length) (.tup []), s0.H, s0.own⟩ fun e s => (e = .normal ∨ e = .ret) ∧ endOk P s rs s1) : CH P G f s0 s1 := CH.of_SW hf hb hn hrs hT (VW_ok c _ _ (VW_of_VK h))
end
end Go.VM
end

section
set_option linter.unusedVariables false
set_option linter.unusedSimpArgs false
set_option linter.unusedSectionVars false
namespace Go.VM
open Go Go.RowKit

/-- The caller's own classes without those that are handed on. -/
def takeW (s : St) : List (TypeId × List Loc) → List (TypeId × List Loc) → Option (List (TypeId × List Loc))
  | own, [] => some own
  | own, c :: r => if nilCls s c then takeW s own r else match takeCls c own with
    | some own1 => takeW s own1 r
    | none => none
def renLoc (K : List (Nat × Nat)) (dst : Option Tmp) : Loc → Option Loc
  | .t i => if i = 0 then dst.map Loc.t else none
  | .c k off => some (.c (rk K k) off)
def renCls (K : List (Nat × Nat)) (dst : Option Tmp) (c : TypeId × List Loc) : TypeId × List Loc := (c.1, c.2.filterMap (renLoc K dst))
/-- Where the caller has what the callee owns. -/
def srcLoc (K : List (Nat × Nat)) (ls : List (Option Loc)) : Loc → Option Loc
  | .t i => (ls[i]?).join
  | .c k off => some (.c (rk K k) off)
def srcCls (K : List (Nat × Nat)) (ls : List (Option Loc)) (c : TypeId × List Loc) : TypeId × List Loc := (c.1, c.2.filterMap (srcLoc K ls))
/-- The arguments that are handed on with their spare places lie in temporaries. -/
def argOwn (n : Nat) (ls : List (Option Loc)) (own : List (TypeId × List Loc)) : Bool := own.all fun c => c.2.all fun l => match l with
  | .t i => (match ls[i]? with
    | some (some (.t t)) => decide (t < n)
    | _ => false)
  | .c _ _ => true
def dropKs : List (Nat × Nat) → List (TypeId × List Loc) → List (TypeId × List Loc)
  | [], own => own
  | p :: r, own => dropKs r (dropKey p.2 own)
def setAllK (K : List (Nat × Nat)) : List (Nat × AObj) → List (Nat × AObj) → List (Nat × AObj)
  | [], H => H
  | p :: r, H => setAllK K r (setKey (rk K p.1) (renO K p.2) H)
def renH (K : List (Nat × Nat)) (H : List (Nat × AObj)) : List (Nat × AObj) := H.map fun p => (rk K p.1, renO K p.2)
def putRes (dst : Option Tmp) (d : DV) (l : List DV) : List DV := match dst with
  | some i => l.set i d
  | none => l
def dropDst (dst : Option Tmp) (own : List (TypeId × List Loc)) : List (TypeId × List Loc) := match dst with
  | some d => dropLoc (.t d) own
  | none => own
/-- The caller's state behind the call. -/
def afterCall (K : List (Nat × Nat)) (dst : Option Tmp) (st : St) (rest : List (TypeId × List Loc)) (r : DV) (H1 : List (Nat × AObj)) (own1 : List (TypeId × List Loc)) : St :=
  { tmps := putRes dst (renV K r) st.tmps, H := setAllK K H1 st.H, own := own1.map (renCls K dst) ++ dropDst dst (dropKs K rest) }

def noTmp (own : List (TypeId × List Loc)) : Bool := own.all fun c => c.2.all fun l => match l with
  | .t _ => false
  | .c _ _ => true
/-- What can be looked up of the keys. -/
def keysFit (K : List (Nat × Nat)) (s0 : St) (r : DV) (H1 : List (Nat × AObj)) : Bool :=
  decide ((K.map (·.1)).Nodup) && decide ((K.map (·.2)).Nodup) && (K.all fun p => decide (100000 ≤ p.1)) && (s0.tmps.all (keysOk K)) &&
  (s0.H.all fun p => (K.any fun q => q.1 == p.1) && keysOkO K p.2 && (getKey p.1 H1).isSome) && keysIn s0.H s0.own &&
  keysOk K r && decide ((H1.map (·.1)).Nodup) && (H1.all fun p => keysOkO K p.2 && (getKey p.1 s0.H).isSome)

theorem getKey_mem {k : Nat} {o : AObj} : ∀ {H : List (Nat × AObj)}, getKey k H = some o → (k, o) ∈ H
  | [], h => by simp [getKey] at h
  | (k', o') :: r, h => by
    unfold getKey at h
    split at h
    · rename_i he; cases h; subst he; exact .head _
    · exact .tail _ (getKey_mem h)
theorem getKey_of_mem {k : Nat} {o : AObj} : ∀ {H : List (Nat × AObj)}, (H.map (·.1)).Nodup → (k, o) ∈ H → getKey k H = some o
  | (k', o') :: r, hn, h => by
    simp only [List.map_cons, List.nodup_cons] at hn
    unfold getKey
    rcases List.mem_cons.1 h with he | h
    · cases he; simp
    · have : k' ≠ k := fun e => hn.1 (by rw [e]; exact List.mem_map.2 ⟨(k, o), h, rfl⟩)
      rw [if_neg this]
      exact getKey_of_mem hn.2 h
theorem getKey_setAll {K : List (Nat × Nat)} {k : Nat} {o : AObj} : ∀ {l H : List (Nat × AObj)}, getKey k (setAllK K l H) = some o → (∃ p ∈ l, k = rk K p.1 ∧ o = renO K p.2) ∨ ((∀ p ∈ l, k ≠ rk K p.1) ∧ getKey k H = some o)
  | [], H, h => .inr ⟨by simp, h⟩
  | p :: r, H, h => by
    rcases getKey_setAll (l := r) h with ⟨q, h1, h2⟩ | ⟨h1, h2⟩
    · exact .inl ⟨q, .tail _ h1, h2⟩
    · rw [getKey_setKey] at h2
      split at h2
      · rename_i he; cases h2; exact .inl ⟨p, .head _, he.symm, rfl⟩
      · rename_i hne
        exact .inr ⟨fun q hq => by rcases List.mem_cons.1 hq with rfl | hq; exact fun e => hne e.symm; exact h1 q hq, h2⟩
theorem setAll_some {K : List (Nat × Nat)} {k : Nat} : ∀ {l H : List (Nat × AObj)}, (∃ o, getKey k H = some o) → ∃ o, getKey k (setAllK K l H) = some o
  | [], H, h => h
  | p :: r, H, ⟨o, h⟩ => setAll_some (l := r) (by
      rw [getKey_setKey]
      split
      · exact ⟨_, rfl⟩
      · exact ⟨o, h⟩)
theorem mem_dropKs {K : List (Nat × Nat)} : ∀ {own : List (TypeId × List Loc)} {i : Nat} {c : TypeId × List Loc}, (dropKs K own)[i]? = some c → ∃ c', own[i]? = some c' ∧ c.1 = c'.1 ∧ ∀ x, x ∈ c.2 → x ∈ c'.2 ∧ ∀ p ∈ K, x.ofKey p.2 = false := by
  induction K with
  | nil => intro own i c h; exact ⟨c, h, rfl, fun x hx => ⟨hx, by simp⟩⟩
  | cons p r ih =>
    intro own i c h
    obtain ⟨c1, h1, h2, h3⟩ := ih h
    obtain ⟨c0, g1, g2, g3⟩ := mem_dropKey h1
    refine ⟨c0, g1, h2.trans g2, fun x hx => ?_⟩
    obtain ⟨q1, q2⟩ := h3 x hx
    have q3 := (g3 x).1 q1
    exact ⟨q3.1, fun y hy => by rcases List.mem_cons.1 hy with rfl | hy; exact q3.2; exact q2 y hy⟩
theorem mem_dropDst {dst : Option Tmp} {own : List (TypeId × List Loc)} {i : Nat} {c : TypeId × List Loc} (h : (dropDst dst own)[i]? = some c) : ∃ c', own[i]? = some c' ∧ c.1 = c'.1 ∧ ∀ x, x ∈ c.2 → x ∈ c'.2 ∧ ∀ d, dst = some d → x ≠ .t d := by
  cases dst with
  | none => exact ⟨c, h, rfl, fun x hx => ⟨hx, by simp⟩⟩
  | some d =>
    obtain ⟨c', h1, h2, h3⟩ := mem_dropLoc h
    exact ⟨c', h1, h2, fun x hx => ⟨((h3 x).1 hx).1, fun d' hd => by cases hd; exact ((h3 x).1 hx).2⟩⟩
theorem dropKs_len (K : List (Nat × Nat)) : ∀ own, (dropKs K own).length = own.length := by
  induction K with
  | nil => intro own; rfl
  | cons p r ih => intro own; simp [dropKs, ih, dropKey]
theorem dropDst_len (dst : Option Tmp) (own : List (TypeId × List Loc)) : (dropDst dst own).length = own.length := by
  cases dst <;> simp [dropDst, dropLoc]

section
variable {P : Program} {G : GT} {st : St} {base : Base} {R : Nat → Nat → Prop} {μ : Nat → Nat} {a : Act} {w : World}

theorem takeW_ok (hr : Rel P G base R μ st a w) : ∀ (cs own own1 : List (TypeId × List Loc)) (vs : List Value), Own2 P base R μ st a w own vs → takeW st own cs = some own1 →
    ∃ vsT vs1 : List Value, vsT.length = cs.length ∧ (∀ (i : Nat) (c : TypeId × List Loc) (v : Value), cs[i]? = some c → vsT[i]? = some v → OwnOne P base R μ st a w c v) ∧ vsT.Pairwise Apart ∧ Own2 P base R μ st a w own1 vs1 ∧
      (∀ v ∈ vsT, ∀ u ∈ vs1, Apart v u) ∧ (∀ x ∈ vs1, x ∈ vs) ∧ ∀ x ∈ vsT, spareBlk x = none ∨ x ∈ vs
  | [], own, own1, vs, h, ht => by
    simp only [takeW, Option.some.injEq] at ht
    subst ht
    exact ⟨[], vs, rfl, by simp, .nil, h, by simp, fun _ h => h, by simp⟩
  | c :: r, own, own1, vs, h, ht => by
    unfold takeW at ht
    split at ht
    · rename_i hn
      obtain ⟨vsT, vs1, q1, q2, q3, q4, q5, q6, q7⟩ := takeW_ok hr r own own1 vs h ht
      have hex : ∃ v, OwnOne P base R μ st a w c v ∧ spareBlk v = none := by
        by_cases hx : ∃ l ∈ c.2, ∃ u, locVal a w μ l = some u
        · obtain ⟨l, hl, u, hu⟩ := hx
          unfold nilCls at hn
          split at hn
          · rename_i he; rw [he] at hl; cases hl
          · rename_i l' he
            rw [he] at hl
            simp at hl; subst hl
            obtain ⟨ao, rfl⟩ := isNil_val hr hn hu
            have hs : spareBlk (.slice ao 0 0) = none := by cases ao <;> rfl
            exact ⟨.slice ao 0 0, ⟨fun l2 hl2 u2 hu2 => by rw [he] at hl2; simp at hl2; subst hl2; rw [hu] at hu2; exact (Option.some.inj hu2).symm, .inl ⟨ao, rfl⟩, fun k o _ => by rw [hs]; simp⟩, hs⟩
          · cases hn
        · exact ⟨.slice none 0 0, ⟨fun l hl u hu => absurd ⟨l, hl, u, hu⟩ hx, .inl ⟨none, rfl⟩, fun k o _ => by simp [spareBlk]⟩, rfl⟩
      obtain ⟨v, hv1, hv2⟩ := hex
      refine ⟨v :: vsT, vs1, by simp [q1], fun i c' u hc hu => ?_, List.pairwise_cons.2 ⟨fun x _ g hg => (by rw [hv2] at hg; cases hg), q3⟩, q4, fun x hx u hu => ?_, q6, fun x hx => ?_⟩
      · cases i with
        | zero => simp at hc hu; subst hc hu; exact hv1
        | succ i => simp at hc hu; exact q2 i c' u hc hu
      · rcases List.mem_cons.1 hx with rfl | hx
        · exact fun g hg => by rw [hv2] at hg; cases hg
        · exact q5 x hx u hu
      · rcases List.mem_cons.1 hx with rfl | hx
        · exact .inl hv2
        · exact q7 x hx
    · split at ht
      · rename_i own2 htk
        obtain ⟨v, vs2, p1, p2, p3, p4, p5⟩ := h.take htk
        obtain ⟨vsT, vs1, q1, q2, q3, q4, q5, q6, q7⟩ := takeW_ok hr r own2 own1 vs2 p2 ht
        refine ⟨v :: vsT, vs1, by simp [q1], fun i c' u hc hu => ?_, List.pairwise_cons.2 ⟨fun x hx => ?_, q3⟩, q4, fun x hx u hu => ?_, fun x hx => p3 x (q6 x hx), fun x hx => ?_⟩
        · cases i with
          | zero => simp at hc hu; subst hc hu; exact p1
          | succ i => simp at hc hu; exact q2 i c' u hc hu
        · rcases q7 x hx with hs | hx'
          · exact fun g _ hg => by rw [hs] at hg; cases hg
          · exact p5 x hx'
        · rcases List.mem_cons.1 hx with rfl | hx
          · exact p5 u (q6 u hu)
          · exact q5 x hx u hu
        · rcases List.mem_cons.1 hx with rfl | hx
          · exact .inr p4
          · rcases q7 x hx with hs | hx'
            · exact .inl hs
            · exact .inr (p3 x hx')
      · cases ht
end
end Go.VM
end

section
set_option linter.unusedVariables false
set_option linter.unusedSimpArgs false
set_option linter.unusedSectionVars false
namespace Go.VM
open Go Go.RowKit
section
variable {P : Program} {G : GT} {st : St}

theorem OwnSl.mono {b b' : Base} {R : Nat → Nat → Prop} {w : World} {e : TypeId} {v : Value} (h : OwnSl P b R w e v) (hb : ∀ k, b k → b' k) : OwnSl P b' R w e v := by
  rcases h with h | ⟨g, n, cap, cur, h0, h1, h2⟩
  · exact .inl h
  · exact .inr ⟨g, n, cap, cur, h0, hb g h1, h2⟩

/-- WHAT A CONTRACT WITH OBJECTS IS TO A CALLER. -/
theorem CallTo.of_CH {f : FuncId} {s0 : St} {r : DV} {H1 : List (Nat × AObj)} {own1 : List (TypeId × List Loc)} (hch : CH P G f s0 ⟨[r], H1, own1⟩) (K : List (Nat × Nat)) {as : List DV} {ls : List (Option Loc)} {dst : Option Tmp} {rest : List (TypeId × List Loc)}
    (hfit : keysFit K s0 r H1 = true) (hargs : WkT as (renVs K s0.tmps)) (hH : WkH st.H (renH K s0.H)) (hown : takeW st st.own (s0.own.map (srcCls K ls)) = some rest) (kn : argOwn st.tmps.length ls s0.own = true) :
    CallTo P G f as ls st dst (afterCall K dst st rest r H1 own1) := by
  simp only [keysFit, Bool.and_eq_true, decide_eq_true_eq, List.all_eq_true] at hfit
  obtain ⟨⟨⟨⟨⟨⟨⟨⟨kf, ks⟩, kp⟩, kt⟩, kh⟩, kl⟩, kr⟩, kd⟩, k1⟩ := hfit
  intro base R μ a w args hr hl hv hloc
  obtain ⟨vs, hvs⟩ := hr.own
  obtain ⟨vsT, vsR, t1, t2, t3, t4, t5, t6, t7⟩ := takeW_ok hr _ _ _ vs ⟨hvs.len, hvs.one, hvs.apart⟩ hown
  -- the keys
  have inK : ∀ k o, getKey k s0.H = some o → (K.any fun p => p.1 == k) = true ∧ keysOkO K o = true ∧ (getKey k H1).isSome = true := fun k o hk => by
    have := kh _ (getKey_mem hk)
    try simp only [Bool.and_eq_true] at this
    exact ⟨this.1.1, this.1.2, this.2⟩
  have inst : ∀ k o, getKey k s0.H = some o → ∃ o', getKey (rk K k) st.H = some o' ∧ WkO o' (renO K o) := fun k o hk => by
    have hm := getKey_mem hk
    have : ∀ {l : List (Nat × AObj)}, WkH st.H (renH K l) → (k, o) ∈ l → ∃ o', getKey (rk K k) st.H = some o' ∧ WkO o' (renO K o) := by
      intro l
      induction l with
      | nil => intro _ h; cases h
      | cons p l ih =>
        intro hw hp
        obtain ⟨h1, h2⟩ := hw
        rcases List.mem_cons.1 hp with rfl | hp
        · exact h1
        · exact ih h2 hp
    exact this hH hm
  have big : ∀ k, (K.any fun p => p.1 == k) = true → 100000 ≤ k := fun k hk => by
    obtain ⟨p, h1, h2, _⟩ := rk_mem hk
    rw [← h2]; exact kp p h1
  have rinj : ∀ k k', (K.any fun p => p.1 == k) = true → (K.any fun p => p.1 == k') = true → rk K k = rk K k' → k = k' := fun k k' h h' he => by
    obtain ⟨p, p1, p2, p3⟩ := rk_mem h
    obtain ⟨q, q1, q2, q3⟩ := rk_mem h'
    have hpq : p.2 = q.2 := by rw [← p3, ← q3, he]
    have : p = q := nodup_inj ks p1 q1 hpq
    rw [← p2, ← q2, this]
  have one : ∀ k, (getKey k H1).isSome = true → ∃ o, getKey k s0.H = some o := fun k hk => by
    obtain ⟨o, ho⟩ := Option.isSome_iff_exists.1 hk
    have := k1 _ (getKey_mem ho)
    try simp only [Bool.and_eq_true] at this
    exact Option.isSome_iff_exists.1 this.2
  -- the callee's blocks
  let base' : Base := ⟨fun b => w.heap.size ≤ b ∨ (∃ k o, getKey k s0.H = some o ∧ b = μ (rk K k)) ∨ (∃ v ∈ vsT, spareBlk v = some b), fun k => μ (rk K k)⟩
  have sub : ∀ b, base' b → base b := fun b hb => by
    rcases hb with hb | ⟨k, o, hk, rfl⟩ | ⟨v, hv, hs⟩
    · exact hr.base b hb
    · obtain ⟨o', ho', _⟩ := inst k o hk
      exact (hr.objs _ o' ho').1
    · obtain ⟨i, hi⟩ := List.getElem?_of_mem hv
      have hil : i < (s0.own.map (srcCls K ls)).length := by rw [← t1]; exact (List.getElem?_eq_some_iff.1 hi).1
      exact (t2 i _ v (List.getElem?_eq_getElem hil) hi).own.base_le hs
  have hrel0 : Rel P G base' R (fun k => μ (rk K k)) s0 { tmps := args, defers := [] } w := by
    obtain ⟨g1, g2⟩ := WkT_spec hargs
    rw [renVs_eq] at g1 g2
    refine ⟨rfl, by show args.size = s0.tmps.length; rw [List.length_map] at g1; omega, fun i v d hiv hid => ?_, fun k o hk => ?_, fun k k' o o' hk hk' he => ?_, fun c hc k off hl' => ?_, ⟨vsT, by simpa using t1, fun i c v hc hv' => ?_, t3⟩, hr.glob.up sub, hr.rset, fun b hb => .inl hb, fun k hk => rfl⟩
    · obtain ⟨d0, hd0, hcase⟩ := g2 i (renV K d) (by rw [List.getElem?_map, hid]; rfl)
      have hva := hv i d0 hd0
      have hav : args.getD i undef = v := by
        simp only at hiv
        simp [Array.getD_eq_getD_getElem?, hiv]
      rw [hav] at hva
      have hren : TV R μ w v (renV K d) := by
        rcases hcase with hc | hc | ⟨hc1, hc2⟩
        · rw [hc]; exact .undef _
        · rw [hc]; exact hva
        · rw [hc2]
          rw [hc1] at hva
          obtain ⟨ao, rfl⟩ := hva.dinv.nils_inv
          exact .d _ _ (.emp _ _)
      exact hren.ren (μ := μ) (fun _ _ => rfl) (kt d (List.mem_of_getElem? hid))
    · obtain ⟨q1, q2, _⟩ := inK k o hk
      obtain ⟨o', ho', hw⟩ := inst k o hk
      obtain ⟨p1, p2, p3⟩ := hr.objs _ o' ho'
      exact ⟨.inr (.inl ⟨k, o, hk, rfl⟩), p2, (WkO_rel hw p3).ren (fun _ _ => rfl) q2⟩
    · obtain ⟨o1, h1, _⟩ := inst k o hk
      obtain ⟨o2, h2, _⟩ := inst k' o' hk'
      exact rinj k k' (inK k o hk).1 (inK k' o' hk').1 (hr.inj _ _ o1 o2 h1 h2 he)
    · have := List.all_eq_true.1 (List.all_eq_true.1 kl c hc) _ hl'
      exact Option.isSome_iff_exists.1 this
    · have ho := t2 i (srcCls K ls c) v (by rw [List.getElem?_map, hc]; rfl) hv'
      refine ⟨fun l hl' u hu => ?_, ?_, fun k o hk => ?_⟩
      · have hn := List.all_eq_true.1 (List.all_eq_true.1 kn c (List.mem_of_getElem? hc)) l hl'
        cases l with
        | t j =>
          simp only at hn
          split at hn
          · rename_i t hj
            simp only [decide_eq_true_eq] at hn
            have ht : t < a.tmps.size := by rw [hr.size]; exact hn
            have hlv : locVal a w μ (.t t) = some a.tmps[t] := by simp [locVal, ht]
            have h1 := hloc j _ hj _ hlv
            have h2 := ho.locs (.t t) (List.mem_filterMap.2 ⟨.t j, hl', by simp [srcLoc, hj]⟩) _ hlv
            simp only [locVal] at hu
            have h3 : args.getD j undef = u := by simp [Array.getD_eq_getD_getElem?, hu]
            rw [← h3, ← h1, h2]
          · cases hn
        | c k off => exact ho.locs (.c (rk K k) off) (List.mem_filterMap.2 ⟨.c k off, hl', rfl⟩) u hu
      · rcases ho.own with h | ⟨g, n, cap, cur, h0, h1, h2, h3, h4⟩
        · exact .inl h
        · by_cases hc0 : cap = 0
          · subst hc0
            have : n = 0 := by omega
            subst this
            exact .inl ⟨_, h0⟩
          · exact .inr ⟨g, n, cap, cur, h0, .inr (.inr ⟨v, List.mem_of_getElem? hv', by rw [h0]; simp [spareBlk, hc0]⟩), h2, h3, h4⟩
      · obtain ⟨o', ho', _⟩ := inst k o hk
        exact ho.keys _ o' ho'
  refine (hch base' R (fun k => μ (rk K k)) args w hrel0).mono fun e w' ⟨v, R', ν, he, hrel1, hs⟩ => ⟨v, R', μ, he, ?_, ⟨hs.below.mono sub, hs.mono, fun b o h1 h2 => sub b (hs.new b o h1 h2), hs.cells⟩⟩
  have hsb : Step base R w R' w' := ⟨hs.below.mono sub, hs.mono, fun b o h1 h2 => sub b (hs.new b o h1 h2), hs.cells⟩
  have hν : ∀ k, (K.any fun p => p.1 == k) = true → ν k = μ (rk K k) := fun k hk => hrel1.pass k (big k hk)
  have k1' : ∀ p ∈ H1, keysOkO K p.2 = true ∧ (∃ o, getKey p.1 s0.H = some o) ∧ getKey p.1 H1 = some p.2 := fun p hp => by
    have := k1 p hp
    try simp only [Bool.and_eq_true] at this
    exact ⟨this.1, Option.isSome_iff_exists.1 this.2, getKey_of_mem kd hp⟩
  -- a block that is not the callee's is as it was
  have kept : ∀ b, ¬ base' b → w'.heap[b]? = w.heap[b]? ∧ ∀ off, R' b off → R b off := fun b hb => ⟨hs.below.block b hb, fun off h => by
    by_cases hx : R b off
    · exact hx
    · exact absurd (hs.new b off h hx) hb⟩
  have objOut : ∀ k o, (∀ p ∈ H1, k ≠ rk K p.1) → getKey k st.H = some o → ¬ base' (μ k) := fun k o hk ho hb => by
    rcases hb with hb | ⟨k0, o0, h0, he'⟩ | ⟨u, hu, hsp⟩
    · have := (hr.objs k o ho).2.2.lt; omega
    · obtain ⟨o', ho', _⟩ := inst k0 o0 h0
      have := hr.inj k (rk K k0) o o' ho ho' he'
      obtain ⟨o1, ho1⟩ := Option.isSome_iff_exists.1 (inK k0 o0 h0).2.2
      exact hk (k0, o1) (getKey_mem ho1) this
    · obtain ⟨i, hi⟩ := List.getElem?_of_mem hu
      have hil : i < (s0.own.map (srcCls K ls)).length := by rw [← t1]; exact (List.getElem?_eq_some_iff.1 hi).1
      exact (t2 i _ u (List.getElem?_eq_getElem hil) hi).keys k o ho hsp
  have known : ∀ k o, getKey k (setAllK K H1 st.H) = some o → ∃ o', getKey k st.H = some o' := fun k o hk => by
    rcases getKey_setAll hk with ⟨p, hp, rfl, _⟩ | ⟨_, h⟩
    · obtain ⟨_, ⟨o0, h0⟩, _⟩ := k1' p hp
      obtain ⟨o', ho', _⟩ := inst _ _ h0
      exact ⟨o', ho'⟩
    · exact ⟨o, h⟩
  obtain ⟨vs1, hv1⟩ := hrel1.own
  have hd0 : ∀ u, (#[v] : Array Value)[0]? = some u → u = v := fun u hu => by simp at hu; exact hu.symm
  refine ⟨by cases dst <;> exact hr.defers, ?_, fun i u d hu hd => ?_, fun k o hk => ?_, fun k k' o o' hk hk' he' => ?_, fun c hc k off hl' => ?_, ⟨vs1 ++ vsR, ?_, fun i c u hc hu => ?_, ?_⟩, hr.glob.of_step hsb, hrel1.rset, fun b hb => hr.base b (Nat.le_trans hs.below.size hb), hr.pass⟩
  · cases dst with
    | none => exact hr.size
    | some t => simp [afterCall, putRes, Act.put, hr.size]
  · -- the temporaries
    have hres : TV R' μ w' v (renV K r) := (hrel1.tmps 0 v r rfl rfl).unren hν kr
    cases dst with
    | none => exact (hr.tmps i u d hu hd).of_step hsb
    | some t =>
      simp only [afterCall, putRes, Act.put] at hu hd
      by_cases hti : t = i
      · subst hti
        have h1 : t < st.tmps.length := by
          by_cases hlt : t < st.tmps.length
          · exact hlt
          · have hno : (st.tmps.set t (renV K r))[t]? = none := List.getElem?_eq_none (by rw [List.length_set]; exact Nat.le_of_not_lt hlt)
            rw [hno] at hd; cases hd
        have h2 : t < a.tmps.size := by rw [hr.size]; exact h1
        simp [h1] at hd
        simp [h2] at hu
        subst hu hd
        exact hres
      · rw [Array.getElem?_setIfInBounds_ne hti] at hu
        rw [List.getElem?_set_ne hti] at hd
        exact (hr.tmps i u d hu hd).of_step hsb
  · -- the objects
    simp only [afterCall] at hk
    rcases getKey_setAll hk with ⟨p, hp, rfl, rfl⟩ | ⟨hk1, hk2⟩
    · obtain ⟨q1, ⟨o0, h0⟩, q3⟩ := k1' p hp
      obtain ⟨p1, p2, p3⟩ := hrel1.objs p.1 p.2 q3
      have hk0 := (inK _ _ h0).1
      rw [hν _ hk0] at p1 p2 p3
      exact ⟨sub _ p1, p2, p3.unren hν q1⟩
    · obtain ⟨p1, p2, p3⟩ := hr.objs k o hk2
      obtain ⟨e1, e2⟩ := kept _ (objOut k o hk1 hk2)
      exact ⟨p1, fun off h => p2 off (e2 off h), p3.of_step hsb e1⟩
  · obtain ⟨o1, h1⟩ := known k o hk
    obtain ⟨o2, h2⟩ := known k' o' hk'
    exact hr.inj k k' o1 o2 h1 h2 he'
  · -- places of own classes
    simp only [afterCall, List.mem_append] at hc
    rcases hc with hc | hc
    · obtain ⟨c0, hc0, rfl⟩ := List.mem_map.1 hc
      obtain ⟨l0, hl0, he0⟩ := List.mem_filterMap.1 hl'
      cases l0 with
      | t j =>
        simp only [renLoc] at he0
        split at he0
        · cases dst <;> simp at he0
        · cases he0
      | c k0 off0 =>
        simp only [renLoc, Option.some.injEq] at he0
        cases he0
        obtain ⟨o, ho⟩ := hrel1.locs c0 hc0 k0 off hl0
        have hm := getKey_mem ho
        obtain ⟨_, ⟨o0, h0⟩, _⟩ := k1' _ hm
        obtain ⟨o', ho', _⟩ := inst _ _ h0
        exact setAll_some ⟨o', ho'⟩
    · obtain ⟨i, hi⟩ := List.getElem?_of_mem hc
      obtain ⟨c1, g1, _, g3⟩ := mem_dropDst hi
      obtain ⟨c2, f1, _, f3⟩ := mem_dropKs g1
      have hx := (f3 _ (g3 _ hl').1).1
      have hmem := List.mem_of_getElem? f1
      obtain ⟨o, ho⟩ := hr.locs c2 (takeW_sub hown c2 hmem) k off hx
      exact setAll_some ⟨o, ho⟩
  · have := hv1.len
    have := t4.len
    simp only [afterCall, List.length_append, List.length_map, dropDst_len, dropKs_len]
    simp at *
    omega
  · -- the own classes
    simp only [afterCall] at hc
    have h1l : vs1.length = own1.length := hv1.len
    by_cases hi : i < own1.length
    · rw [List.getElem?_append_left (by simpa using hi), List.getElem?_map] at hc
      rw [List.getElem?_append_left (by omega)] at hu
      obtain ⟨c0, hc0, rfl⟩ := Option.map_eq_some_iff.1 hc
      have ho := hv1.one i c0 u hc0 hu
      refine ⟨fun l hl' u' hu' => ?_, ho.own.mono sub, fun k o hk => ?_⟩
      · obtain ⟨l0, hl0, he0⟩ := List.mem_filterMap.1 hl'
        cases l0 with
        | t j =>
          simp only [renLoc] at he0
          split at he0
          · rename_i hj
            subst hj
            cases dst with
            | none => simp at he0
            | some t =>
              simp at he0
              subst he0
              simp only [locVal, Act.put] at hu'
              by_cases hlt : t < a.tmps.size
              · simp [hlt] at hu'
                subst hu'
                exact ho.locs (.t 0) hl0 _ (by simp [locVal])
              · simp [hlt] at hu'
          · cases he0
        | c k0 off0 =>
          simp only [renLoc, Option.some.injEq] at he0
          subst he0
          obtain ⟨o, hoo⟩ := hrel1.locs c0 (List.mem_of_getElem? hc0) k0 off0 hl0
          obtain ⟨_, ⟨o0, h0⟩, _⟩ := k1' _ (getKey_mem hoo)
          have hk0 := (inK _ _ h0).1
          refine ho.locs (.c k0 off0) hl0 u' ?_
          simp only [locVal] at hu' ⊢
          rw [hν _ hk0]
          cases dst <;> exact hu'
      · simp only [afterCall] at hk
        rcases getKey_setAll hk with ⟨p, hp, rfl, _⟩ | ⟨hk1, hk2⟩
        · obtain ⟨_, ⟨o0, h0⟩, q3⟩ := k1' p hp
          have := ho.keys p.1 p.2 q3
          rw [hν _ (inK _ _ h0).1] at this
          exact this
        · intro hsp
          exact objOut k o hk1 hk2 (ho.own.base_le hsp)
    · rw [List.getElem?_append_right (by simp; omega)] at hc
      rw [List.getElem?_append_right (by omega)] at hu
      simp only [List.length_map] at hc
      rw [h1l] at hu
      obtain ⟨c1, g1, g2, g3⟩ := mem_dropDst hc
      obtain ⟨c2, f1, f2, f3⟩ := mem_dropKs g1
      have ho := t4.one _ c2 u f1 hu
      have hum := List.mem_of_getElem? hu
      -- its spare places are not the callee's
      have out : ∀ g, spareBlk u = some g → ¬ base' g := fun g hg hb => by
        rcases hb with hb | ⟨k0, o0, h0, he'⟩ | ⟨x, hx, hsp⟩
        · have := ho.own.lt hg; omega
        · obtain ⟨o', ho', _⟩ := inst k0 o0 h0
          exact ho.keys _ o' ho' (by rw [hg, he'])
        · exact t5 x hx u hum g hsp hg
      refine ⟨fun l hl' u' hu' => ?_, ?_, fun k o hk => ?_⟩
      · obtain ⟨q1, q2⟩ := g3 l hl'
        obtain ⟨q3, q4⟩ := f3 l q1
        refine ho.locs l q3 u' ?_
        rw [locVal_put_ne q2] at hu'
        cases l with
        | t j => exact hu'
        | c k off =>
          obtain ⟨o, hoo⟩ := hr.locs c2 (takeW_sub hown c2 (List.mem_of_getElem? f1)) k off q3
          have hno : ∀ p ∈ H1, k ≠ rk K p.1 := fun p hp e => by
            obtain ⟨_, ⟨o0, h0⟩, _⟩ := k1' p hp
            obtain ⟨q, hq1, hq2, hq3⟩ := rk_mem (inK _ _ h0).1
            have := q4 q hq1
            simp [Loc.ofKey, e, hq3] at this
          rw [← hu']
          exact (World.cell?_of_block (kept _ (objOut k o hno hoo)).1).symm
      · have : OwnSl P base R' w' c2.1 u := ho.own.keep1 (fun g hg => (kept g (out g hg)).1) (fun g off hg h => (kept g (out g hg)).2 off h)
        rw [g2, f2]; exact this
      · obtain ⟨o', ho'⟩ := known k o hk
        exact ho.keys k o' ho'
  · refine List.pairwise_append.2 ⟨hv1.apart, t4.apart, fun x hx y hy g hg hg' => ?_⟩
    obtain ⟨i, hi⟩ := List.getElem?_of_mem hx
    have hil : i < own1.length := by rw [← hv1.len]; exact (List.getElem?_eq_some_iff.1 hi).1
    have hb := (hv1.one i _ x (List.getElem?_eq_getElem hil) hi).own.base_le hg
    obtain ⟨j, hj⟩ := List.getElem?_of_mem hy
    have hjl : j < rest.length := by rw [← t4.len]; exact (List.getElem?_eq_some_iff.1 hj).1
    have ho := t4.one j _ y (List.getElem?_eq_getElem hjl) hj
    rcases hb with hb | ⟨k0, o0, h0, he'⟩ | ⟨z, hz, hsp⟩
    · have := ho.own.lt hg'; omega
    · obtain ⟨o', ho', _⟩ := inst k0 o0 h0
      exact ho.keys _ o' ho' (by rw [hg', he'])
    · exact t5 z hz y hy g hsp hg'
where
  nodup_inj {α β : Type} {f : α → β} : ∀ {l : List α}, (l.map f).Nodup → ∀ {x y : α}, x ∈ l → y ∈ l → f x = f y → x = y
    | z :: l, hn, x, y, hx, hy, he => by
      simp only [List.map_cons, List.nodup_cons, List.mem_map, not_exists, not_and] at hn
      rcases List.mem_cons.1 hx with h1 | h1
      · rcases List.mem_cons.1 hy with h2 | h2
        · rw [h1, h2]
        · exact absurd (by rw [← he, h1]) (hn.1 y h2)
      · rcases List.mem_cons.1 hy with h2 | h2
        · exact absurd (by rw [he, h2]) (hn.1 x h1)
        · exact nodup_inj hn.2 h1 h2 he
  takeCls_sub {c : TypeId × List Loc} {own own1 : List (TypeId × List Loc)} (h : takeCls c own = some own1) : ∀ x ∈ own1, x ∈ own := fun x hx => by
    obtain ⟨pre, c0, post, rfl, rfl, _, _⟩ := takeCls_spec h
    simp at hx ⊢
    rcases hx with hx | hx <;> simp [hx]
  takeW_sub {s : St} : ∀ {cs own own1 : List (TypeId × List Loc)}, takeW s own cs = some own1 → ∀ x ∈ own1, x ∈ own
    | [], own, own1, h, x, hx => by simp only [takeW, Option.some.injEq] at h; subst h; exact hx
    | c :: r, own, own1, h, x, hx => by
      unfold takeW at h
      split at h
      · exact takeW_sub h x hx
      · split at h
        · rename_i own2 ht
          exact takeCls_sub ht x (takeW_sub h x hx)
        · cases h
/-- A call that hands objects on: by its contract, and what follows. -/
theorem callHK.mk {q ro : Bool} {ls : List (Option Loc)} {f : FuncId} {s0 : St} {r : DV} {H1 : List (Nat × AObj)} {own1 : List (TypeId × List Loc)} {as : List DV} {dst : Option Tmp} {all : Array Oper} {ops : List Oper} {k : List KI} {Q : Exit → St → Prop} {rest : List (TypeId × List Loc)}
    (he : Enters P f) (hch : CH P G f s0 ⟨[r], H1, own1⟩) (K : List (Nat × Nat)) (hfit : keysFit K s0 r H1 = true) (hargs : WkT as (renVs K s0.tmps)) (hH : WkH st.H (renH K s0.H)) (hown : takeW st st.own (s0.own.map (srcCls K ls)) = some rest) (harg : argOwn st.tmps.length ls s0.own = true)
    (h : VK P G (.ops q all ops :: k) .normal (afterCall K dst st rest r H1 own1) Q) (hro : ro = false := by kernel_rfl) : callHK P G q ro f as ls dst all ops k st Q := callHK.mk' ⟨_, ⟨he, CallTo.of_CH hch K hfit hargs hH hown harg⟩, h⟩ hro
/-- A call that hands on slices with their spare places. -/
theorem callK.own {q ro qn : Bool} {ls : List (Option Loc)} {f : FuncId} {s0 : St} {r : DV} {own1 : List (TypeId × List Loc)} {ds : List D} {dst : Option Tmp} {all : Array Oper} {ops : List Oper} {k : List KI} {Q : Exit → St → Prop} {rest : List (TypeId × List Loc)}
    (he : Enters P f) (hch : CH P G f s0 ⟨[r], [], own1⟩) (hfit : keysFit [] s0 r [] = true) (hargs : WkT (ds.map .d) (renVs [] s0.tmps)) (hH : WkH st.H (renH [] s0.H)) (hown : takeW st st.own (s0.own.map (srcCls [] ls)) = some rest) (harg : argOwn st.tmps.length ls s0.own = true)
    (h : VK P G (.ops q all ops :: k) .normal (afterCall [] dst st rest r [] own1) Q) (hro : ro = false := by kernel_rfl) : callK P G q ro qn f ds ls dst all ops k st Q := callK.own' ⟨_, ⟨he, CallTo.of_CH hch [] hfit hargs hH hown harg⟩, h⟩ hro
theorem repKey_same {k : Nat} {o : AObj} : ∀ {H : List (Nat × AObj)}, getKey k H = some o → repKey k o H = H
  | [], h => by simp [getKey] at h
  | (k', o') :: r, h => by
    unfold getKey at h
    unfold repKey
    split at h
    · rename_i he; cases h; subst he; simp
    · rename_i he; rw [if_neg he, repKey_same h]
theorem setKey_same {k : Nat} {o : AObj} {H : List (Nat × AObj)} (h : getKey k H = some o) : setKey k o H = H := by
  unfold setKey
  rw [h]
  exact repKey_same h
theorem setAllK_same {K : List (Nat × Nat)} : ∀ {l H : List (Nat × AObj)}, (∀ p ∈ l, getKey (rk K p.1) H = some (renO K p.2)) → setAllK K l H = H
  | [], H, _ => rfl
  | p :: r, H, h => by
    unfold setAllK
    rw [setKey_same (h p (.head _))]
    exact setAllK_same fun q hq => h q (.tail _ hq)
theorem dropKey_same {k : Nat} {ks : List Nat} {own : List (TypeId × List Loc)} (hk : k ∈ ks) (h : noOwnAt ks own = true) : dropKey k own = own := by
  unfold dropKey
  conv => rhs; rw [← List.map_id own]
  refine List.map_congr_left fun c hc => ?_
  have h1 := List.all_eq_true.1 h c hc
  have : c.2.filter (fun x => !x.ofKey k) = c.2 := List.filter_eq_self.2 fun l hl => by
    have h2 := List.all_eq_true.1 h1 l hl
    cases l with
    | t i => rfl
    | c k' off =>
      simp only [locOk, Bool.not_eq_true', List.contains_eq_mem, decide_eq_false_iff_not] at h2
      simp only [Loc.ofKey, Bool.not_eq_true', beq_eq_false_iff_ne, ne_eq]
      exact fun e => h2 (e ▸ hk)
  rw [this]; rfl
theorem dropKs_same : ∀ {K : List (Nat × Nat)} {ks : List Nat} {own : List (TypeId × List Loc)}, (∀ p ∈ K, p.2 ∈ ks) → noOwnAt ks own = true → dropKs K own = own
  | [], _, _, _, _ => rfl
  | p :: r, ks, own, h, hn => by
    unfold dropKs
    rw [dropKey_same (h p (.head _)) hn]
    exact dropKs_same (fun q hq => h q (.tail _ hq)) hn
def sameH (H : List (Nat × AObj)) : List (Nat × AObj) → Prop
  | [] => True
  | p :: r => getKey p.1 H = some p.2 ∧ sameH H r
theorem WkT_same : ∀ l : List DV, WkT l l
  | [] => trivial
  | d :: r => ⟨.inr (.inl rfl), WkT_same r⟩
theorem sameH_WkH {H : List (Nat × AObj)} : ∀ {l : List (Nat × AObj)}, sameH H l → WkH H l
  | [], _ => trivial
  | p :: r, h => ⟨⟨p.2, h.1, by cases p.2 <;> simp [WkO, WkT_same]⟩, sameH_WkH h.2⟩
theorem sameH_spec {H : List (Nat × AObj)} {K : List (Nat × Nat)} : ∀ {l : List (Nat × AObj)}, sameH H (renH K l) → ∀ p ∈ l, getKey (rk K p.1) H = some (renO K p.2)
  | q :: r, h, p, hp => by
    rcases List.mem_cons.1 hp with rfl | hp
    · exact h.1
    · exact sameH_spec h.2 p hp
theorem sameH_agree {H H' : List (Nat × AObj)} {K : List (Nat × Nat)} {ks : List Nat} (ha : ∀ k ∈ ks, getKey k H' = getKey k H) : ∀ {l : List (Nat × AObj)}, (∀ p ∈ l, rk K p.1 ∈ ks) → sameH H (renH K l) → sameH H' (renH K l)
  | [], _, _ => trivial
  | p :: r, hi, h => ⟨(ha _ (hi p (.head _))).trans h.1, sameH_agree ha (fun q hq => hi q (.tail _ hq)) h.2⟩
theorem RO.of_CH {f : FuncId} {tmps : List DV} {H0 : List (Nat × AObj)} {r : DV} {as : List DV} {H : List (Nat × AObj)} (hch : CH P G f ⟨tmps, H0, []⟩ ⟨[r], H0, []⟩) (K : List (Nat × Nat)) (hfit : keysFit K ⟨tmps, H0, []⟩ r H0 = true)
    (hargs : WkT as (renVs K tmps)) (hH : sameH H (renH K H0)) : RO P G f as (K.map (·.2)) H (renV K r) := by
  intro st hst hno dst ls
  have hin : ∀ p ∈ H0, rk K p.1 ∈ K.map (·.2) := fun p hp => by
    simp only [keysFit, Bool.and_eq_true, List.all_eq_true] at hfit
    obtain ⟨⟨⟨⟨⟨_, hh⟩, _⟩, _⟩, _⟩, _⟩ := hfit
    obtain ⟨q, q1, q2, q3⟩ := rk_mem (hh p hp).1.1
    rw [q3]
    exact List.mem_map_of_mem q1
  have hH : sameH st.H (renH K H0) := sameH_agree hst hin hH
  have h := CallTo.of_CH (st := st) (dst := dst) (ls := ls) hch K hfit hargs (sameH_WkH hH) (rest := st.own) rfl rfl
  have he : afterCall K dst st st.own r H0 [] = finish st dst (renV K r) .no := by
    unfold afterCall
    rw [setAllK_same (sameH_spec hH), dropKs_same (ks := K.map (·.2)) (fun p hp => List.mem_map_of_mem hp) hno]
    cases dst <;> rfl
  rw [← he]
  exact h
/-- A call that reads objects, and leaves them as they are. -/
theorem callHK.ro {q ro : Bool} {ls : List (Option Loc)} {f : FuncId} {tmps : List DV} {H0 : List (Nat × AObj)} {r : DV} {as : List DV} {dst : Option Tmp} {all : Array Oper} {ops : List Oper} {k : List KI} {Q : Exit → St → Prop}
    (he : Enters P f) (hch : CH P G f ⟨tmps, H0, []⟩ ⟨[r], H0, []⟩) (K : List (Nat × Nat)) (hfit : keysFit K ⟨tmps, H0, []⟩ r H0 = true) (hargs : WkT as (renVs K tmps)) (hH : sameH st.H (renH K H0)) (hno : noOwnAt (K.map (·.2)) st.own = true) (hks : ((K.map (·.2)).all fun k => (getKey k st.H).isSome) = true)
    (h : VK P G (.ops q all ops :: k) .normal (finish st dst (renV K r) .no) Q) (hkl : keyless (renV K r) = true := by rfl) : callHK P G q ro f as ls dst all ops k st Q := callHK.ro' he (RO.of_CH hch K hfit hargs hH) hno hks hkl h
end
attribute [simp] srcLoc srcCls argOwn sameH noOwnAt locOk afterCall renV renVs rk renO renH renLoc renCls dropKs setAllK putRes dropDst takeW keysFit keysOk keysOks keysOkO noTmp retSt retLoc endOk resultV resV
end Go.VM
end

section
set_option linter.unusedVariables false
set_option linter.unusedSimpArgs false
set_option linter.unusedSectionVars false
namespace Go.VM
open Go Go.RowKit

/-! ### Objects that are handed on -/
mutual
def keysV : DV → List Nat
  | .ptr k _ => [k]
  | .mp k => [k]
  | .it k => [k]
  | .clo _ cs => keysVs cs
  | .ag cs => keysVs cs
  | _ => []
def keysVs : List DV → List Nat
  | [] => []
  | d :: r => keysV d ++ keysVs r
end
def keysO : AObj → List Nat
  | .cells cs => keysVs cs
  | _ => []
def addNew (ks : List Nat) : List Nat → List Nat
  | [] => ks
  | k :: r => if ks.contains k then addNew ks r else addNew (ks ++ [k]) r
def reachK (H : List (Nat × AObj)) : Nat → List Nat → List Nat
  | 0, ks => ks
  | n + 1, ks => reachK H n (addNew ks (ks.flatMap fun k => match getKey k H with
    | some o => keysO o
    | none => []))
def mkK (n : Nat) : List Nat → List (Nat × Nat)
  | [] => []
  | k :: r => (n, k) :: mkK (n + 1) r
def invK (K : List (Nat × Nat)) : List (Nat × Nat) := K.map fun p => (p.2, p.1)
def pickH (H : List (Nat × AObj)) : List Nat → List (Nat × AObj)
  | [] => []
  | k :: r => match getKey k H with
    | some o => (k, o) :: pickH H r
    | none => pickH H r
def argsIn (ls : List (Option Loc)) (c : List Loc) : Nat → List Loc
  | 0 => []
  | n + 1 => (match ls[n]? with
    | some (some l) => if c.contains l then [Loc.t n] else []
    | _ => []) ++ argsIn ls c n
def ownFor (g : Bool) (K' : List (Nat × Nat)) (ks : List Nat) (ls : List (Option Loc)) (own : List (TypeId × List Loc)) : List (TypeId × List Loc) :=
  (own.map fun c => (c.1, (c.2.filterMap fun l => match l with
    | .c k off => if ks.contains k then some (Loc.c (rk K' k) off) else none
    | .t _ => none) ++ (if g then argsIn ls c.2 ls.length else []))).filter fun c => !c.2.isEmpty
def handK (as : List DV) (st : St) : List (Nat × Nat) := mkK 100000 (reachK st.H 5 (addNew [] (keysVs as)))
def handS (g : Bool) (K : List (Nat × Nat)) (as : List DV) (ls : List (Option Loc)) (st : St) : St := ⟨renVs (invK K) as, renH (invK K) (pickH st.H (K.map (·.2))), ownFor g (invK K) (K.map (·.2)) ls st.own⟩
def handOk (K : List (Nat × Nat)) (as : List DV) (st : St) : Bool := decide ((K.map (·.1)).Nodup) && keysOks (invK K) as && ((pickH st.H (K.map (·.2))).all fun p => ((invK K).any fun q => q.1 == p.1) && keysOkO (invK K) p.2)
theorem rk_inv {K : List (Nat × Nat)} (hn : (K.map (·.1)).Nodup) {k : Nat} (h : ((invK K).any fun p => p.1 == k) = true) : rk K (rk (invK K) k) = k := by
  obtain ⟨p, hp, h1, h2⟩ := rk_mem h
  obtain ⟨q, hq, rfl⟩ := List.mem_map.1 hp
  simp only at h1 h2
  rw [h2]
  obtain ⟨q', hq', h3, h4⟩ := rk_mem (K := K) (k := q.1) (List.any_eq_true.2 ⟨q, hq, by simp⟩)
  have : q' = q := CallTo.of_CH.nodup_inj hn hq' hq h3
  rw [h4, this, h1]
mutual
theorem renV_inv {K : List (Nat × Nat)} (hn : (K.map (·.1)).Nodup) : ∀ d : DV, keysOk (invK K) d = true → renV K (renV (invK K) d) = d
  | .ptr k o, h => by simp only [renV]; rw [rk_inv hn (by simpa [keysOk] using h)]
  | .mp k, h => by simp only [renV]; rw [rk_inv hn (by simpa [keysOk] using h)]
  | .it k, h => by simp only [renV]; rw [rk_inv hn (by simpa [keysOk] using h)]
  | .clo f cs, h => by simp only [renV]; rw [renVs_inv hn cs (by simpa [keysOk] using h)]
  | .ag cs, h => by simp only [renV]; rw [renVs_inv hn cs (by simpa [keysOk] using h)]
  | .d _, _ => rfl
  | .undef, _ => rfl
  | .ep _, _ => rfl
  | .tup _, _ => rfl
  | .fn _, _ => rfl
  | .anyb, _ => rfl
  | .nilp _, _ => rfl
theorem renVs_inv {K : List (Nat × Nat)} (hn : (K.map (·.1)).Nodup) : ∀ l : List DV, keysOks (invK K) l = true → renVs K (renVs (invK K) l) = l
  | [], _ => rfl
  | d :: r, h => by
    simp only [keysOks, Bool.and_eq_true] at h
    simp only [renVs]
    rw [renV_inv hn d h.1, renVs_inv hn r h.2]
end
theorem renO_inv {K : List (Nat × Nat)} (hn : (K.map (·.1)).Nodup) (o : AObj) (h : keysOkO (invK K) o = true) : renO K (renO (invK K) o) = o := by
  cases o with
  | cells cs => simp only [renO]; rw [renVs_inv hn cs h]
  | map es => rfl
  | iter s p => rfl
  | bld T u es => rfl
theorem pick_same {K : List (Nat × Nat)} (hn : (K.map (·.1)).Nodup) {H : List (Nat × AObj)} : ∀ ks : List Nat, ((pickH H ks).all fun p => ((invK K).any fun q => q.1 == p.1) && keysOkO (invK K) p.2) = true → sameH H (renH K (renH (invK K) (pickH H ks)))
  | [], _ => trivial
  | k :: r, h => by
    unfold pickH at h ⊢
    split
    · rename_i o ho
      rw [ho] at h
      simp only [List.all_cons, Bool.and_eq_true] at h
      refine ⟨?_, pick_same hn r h.2⟩
      simp only
      rw [rk_inv hn h.1.1, renO_inv hn o h.1.2]
      exact ho
    · rename_i ho
      rw [ho] at h
      exact pick_same hn r h

mutual
def eqD : D → D → Bool
  | .int k n, .int k' n' => decide (k = k') && n == n'
  | .bool a, .bool b => a == b
  | .str a, .str b => a == b
  | .nils, .nils => true
  | .sl a, .sl b => eqDss a b
  | .agg a, .agg b => eqDs a b
  | _, _ => false
def eqDs : List D → List D → Bool
  | [], [] => true
  | a :: r, b :: s => eqD a b && eqDs r s
  | _, _ => false
def eqDss : List (List D) → List (List D) → Bool
  | [], [] => true
  | a :: r, b :: s => eqDs a b && eqDss r s
  | _, _ => false
end
mutual
theorem eqD_ok : ∀ a b : D, eqD a b = true → a = b
  | .int k n, b, h => by cases b <;> simp [eqD] at h; rw [h.1, h.2]
  | .bool x, b, h => by cases b <;> simp [eqD] at h; rw [h]
  | .str x, b, h => by cases b <;> simp [eqD] at h; rw [h]
  | .nils, b, h => by cases b <;> simp [eqD] at h; rfl
  | .sl x, b, h => by
    cases b <;> simp only [eqD] at h <;> try cases h
    rw [eqDss_ok x _ h]
  | .agg x, b, h => by
    cases b <;> simp only [eqD] at h <;> try cases h
    rw [eqDs_ok x _ h]
theorem eqDs_ok : ∀ a b : List D, eqDs a b = true → a = b
  | [], [], _ => rfl
  | a :: r, b :: s, h => by
    simp only [eqDs, Bool.and_eq_true] at h
    rw [eqD_ok a b h.1, eqDs_ok r s h.2]
  | [], _ :: _, h => by simp [eqDs] at h
  | _ :: _, [], h => by simp [eqDs] at h
theorem eqDss_ok : ∀ a b : List (List D), eqDss a b = true → a = b
  | [], [], _ => rfl
  | a :: r, b :: s, h => by
    simp only [eqDss, Bool.and_eq_true] at h
    rw [eqDs_ok a b h.1, eqDss_ok r s h.2]
  | [], _ :: _, h => by simp [eqDss] at h
  | _ :: _, [], h => by simp [eqDss] at h
end
mutual
def eqV : DV → DV → Bool
  | .d a, .d b => eqD a b
  | .undef, .undef => true
  | .nilp T, .nilp T' => T == T'
  | .ptr k o, .ptr k' o' => k == k' && o == o'
  | .mp k, .mp k' => k == k'
  | .it k, .it k' => k == k'
  | .fn f, .fn f' => f == f'
  | .clo f a, .clo f' b => f == f' && eqVs a b
  | _, _ => false
def eqVs : List DV → List DV → Bool
  | [], [] => true
  | a :: r, b :: s => eqV a b && eqVs r s
  | _, _ => false
end
mutual
theorem eqV_ok : ∀ a b : DV, eqV a b = true → a = b
  | .d x, b, h => by
    cases b <;> simp only [eqV] at h <;> try cases h
    rw [eqD_ok x _ h]
  | .undef, b, h => by cases b <;> simp [eqV] at h; rfl
  | .ptr k o, b, h => by cases b <;> simp [eqV] at h; rw [h.1, h.2]
  | .mp k, b, h => by cases b <;> simp [eqV] at h; rw [h]
  | .it k, b, h => by cases b <;> simp [eqV] at h; rw [h]
  | .fn f, b, h => by cases b <;> simp [eqV] at h; rw [h]
  | .clo f a, b, h => by
    cases b <;> simp only [eqV, Bool.and_eq_true, beq_iff_eq] at h <;> try cases h
    rename_i g c h1 h2
    rw [h1, eqVs_ok a c h2]
  | .ep _, b, h => by cases b <;> simp [eqV] at h
  | .ag _, b, h => by cases b <;> simp [eqV] at h
  | .tup _, b, h => by cases b <;> simp [eqV] at h
  | .anyb, b, h => by cases b <;> simp [eqV] at h
  | .nilp T, b, h => by cases b <;> simp [eqV] at h; subst h; rfl
theorem eqVs_ok : ∀ a b : List DV, eqVs a b = true → a = b
  | [], [], _ => rfl
  | a :: r, b :: s, h => by
    simp only [eqVs, Bool.and_eq_true] at h
    rw [eqV_ok a b h.1, eqVs_ok r s h.2]
  | [], _ :: _, h => by simp [eqVs] at h
  | _ :: _, [], h => by simp [eqVs] at h
end
def eqEs : List (D × D) → List (D × D) → Bool
  | [], [] => true
  | a :: r, b :: s => eqD a.1 b.1 && eqD a.2 b.2 && eqEs r s
  | _, _ => false
theorem eqEs_ok : ∀ a b : List (D × D), eqEs a b = true → a = b
  | [], [], _ => rfl
  | (a, a') :: r, (b, b') :: s, h => by
    simp only [eqEs, Bool.and_eq_true] at h
    rw [eqD_ok a b h.1.1, eqD_ok a' b' h.1.2, eqEs_ok r s h.2]
  | [], _ :: _, h => by simp [eqEs] at h
  | _ :: _, [], h => by simp [eqEs] at h
def eqO : AObj → AObj → Bool
  | .cells a, .cells b => eqVs a b
  | .map a, .map b => eqEs a b
  | .iter s p, .iter s' p' => s == s' && p == p'
  | _, _ => false
theorem eqO_ok (a b : AObj) (h : eqO a b = true) : a = b := by
  cases a <;> cases b <;> simp only [eqO] at h <;> try cases h
  · rw [eqVs_ok _ _ h]
  · rw [eqEs_ok _ _ h]
  · simp at h; rw [h.1, h.2]
def eqH : List (Nat × AObj) → List (Nat × AObj) → Bool
  | [], [] => true
  | a :: r, b :: s => a.1 == b.1 && eqO a.2 b.2 && eqH r s
  | _, _ => false
theorem eqH_ok : ∀ a b : List (Nat × AObj), eqH a b = true → a = b
  | [], [], _ => rfl
  | (k, a) :: r, (k', b) :: s, h => by
    simp only [eqH, Bool.and_eq_true, beq_iff_eq] at h
    rw [h.1.1, eqO_ok a b h.1.2, eqH_ok r s h.2]
  | [], _ :: _, h => by simp [eqH] at h
  | _ :: _, [], h => by simp [eqH] at h

/-! ### Values written out: the kernel keeps no unfinished sums of states -/
section
variable {α : Type}
def forceNat (n : Nat) (c : Nat → α) : α := Nat.rec (c 0) (fun m _ => c (Nat.succ m)) n
theorem forceNat_eq (n : Nat) (c : Nat → α) : forceNat n c = c n := by cases n <;> rfl
def forceInt : Int → (Int → α) → α
  | .ofNat n, c => forceNat n fun n => c (.ofNat n)
  | .negSucc n, c => forceNat n fun n => c (.negSucc n)
theorem forceInt_eq (n : Int) (c : Int → α) : forceInt n c = c n := by cases n <;> simp [forceInt, forceNat_eq]
def forceBs : List UInt8 → (List UInt8 → α) → α
  | [], c => c []
  | b :: r, c => forceNat b.toNat fun n => forceBs r fun r => c (UInt8.ofNat n :: r)
theorem forceBs_eq : ∀ (l : List UInt8) (c : List UInt8 → α), forceBs l c = c l
  | [], c => rfl
  | b :: r, c => by simp [forceBs, forceNat_eq, forceBs_eq r]
mutual
def forceD : D → (D → α) → α
  | .int k n, c => forceInt n fun n => c (.int k n)
  | .bool b, c => match b with
    | true => c (.bool true)
    | false => c (.bool false)
  | .str s, c => forceBs s fun s => c (.str s)
  | .nils, c => c .nils
  | .sl es, c => forceDss es fun es => c (.sl es)
  | .agg ds, c => forceDs ds fun ds => c (.agg ds)
def forceDs : List D → (List D → α) → α
  | [], c => c []
  | d :: r, c => forceD d fun d => forceDs r fun r => c (d :: r)
def forceDss : List (List D) → (List (List D) → α) → α
  | [], c => c []
  | d :: r, c => forceDs d fun d => forceDss r fun r => c (d :: r)
end
mutual
theorem forceD_eq : ∀ (d : D) (c : D → α), forceD d c = c d
  | .int k n, c => by simp [forceD, forceInt_eq]
  | .bool b, c => by cases b <;> simp [forceD]
  | .str s, c => by simp [forceD, forceBs_eq]
  | .nils, c => by simp [forceD]
  | .sl es, c => by simp [forceD, forceDss_eq es]
  | .agg ds, c => by simp [forceD, forceDs_eq ds]
theorem forceDs_eq : ∀ (l : List D) (c : List D → α), forceDs l c = c l
  | [], c => by simp [forceDs]
  | d :: r, c => by simp [forceDs, forceD_eq d, forceDs_eq r]
theorem forceDss_eq : ∀ (l : List (List D)) (c : List (List D) → α), forceDss l c = c l
  | [], c => by simp [forceDss]
  | d :: r, c => by simp [forceDss, forceDs_eq d, forceDss_eq r]
end
mutual
def forceV : DV → (DV → α) → α
  | .d x, c => forceD x fun x => c (.d x)
  | .undef, c => c .undef
  | .ptr k o, c => forceNat k fun k => forceNat o fun o => c (.ptr k o)
  | .ep cs, c => forceDs cs fun cs => c (.ep cs)
  | .mp k, c => forceNat k fun k => c (.mp k)
  | .it k, c => forceNat k fun k => c (.it k)
  | .tup ds, c => forceDs ds fun ds => c (.tup ds)
  | .fn f, c => forceNat f fun f => c (.fn f)
  | .anyb, c => c .anyb
  | .nilp T, c => c (.nilp T)
  | .clo f cs, c => forceNat f fun f => forceVs cs fun cs => c (.clo f cs)
  | .ag cs, c => forceVs cs fun cs => c (.ag cs)
def forceVs : List DV → (List DV → α) → α
  | [], c => c []
  | d :: r, c => forceV d fun d => forceVs r fun r => c (d :: r)
end
mutual
theorem forceV_eq : ∀ (d : DV) (c : DV → α), forceV d c = c d
  | .d x, c => by simp [forceV, forceD_eq]
  | .undef, c => by simp [forceV]
  | .ptr k o, c => by simp [forceV, forceNat_eq]
  | .ep cs, c => by simp [forceV, forceDs_eq]
  | .mp k, c => by simp [forceV, forceNat_eq]
  | .it k, c => by simp [forceV, forceNat_eq]
  | .tup ds, c => by simp [forceV, forceDs_eq]
  | .fn f, c => by simp [forceV, forceNat_eq]
  | .anyb, c => by simp [forceV]
  | .nilp _, c => by simp [forceV]
  | .clo f cs, c => by simp [forceV, forceNat_eq, forceVs_eq cs]
  | .ag cs, c => by simp [forceV, forceVs_eq cs]
theorem forceVs_eq : ∀ (l : List DV) (c : List DV → α), forceVs l c = c l
  | [], c => by simp [forceVs]
  | d :: r, c => by simp [forceVs, forceV_eq d, forceVs_eq r]
end
def forceEs : List (D × D) → (List (D × D) → α) → α
  | [], c => c []
  | (a, b) :: r, c => forceD a fun a => forceD b fun b => forceEs r fun r => c ((a, b) :: r)
theorem forceEs_eq : ∀ (l : List (D × D)) (c : List (D × D) → α), forceEs l c = c l
  | [], c => rfl
  | (a, b) :: r, c => by simp [forceEs, forceD_eq, forceEs_eq r]
def forceO : AObj → (AObj → α) → α
  | .cells cs, c => forceVs cs fun cs => c (.cells cs)
  | .map es, c => forceEs es fun es => c (.map es)
  | .iter s p, c => forceBs s fun s => forceNat p fun p => c (.iter s p)
  | .bld T u es, c => c (.bld T u es)
theorem forceO_eq (o : AObj) (c : AObj → α) : forceO o c = c o := by cases o <;> simp [forceO, forceVs_eq, forceEs_eq, forceBs_eq, forceNat_eq]
def forceH : List (Nat × AObj) → (List (Nat × AObj) → α) → α
  | [], c => c []
  | (k, o) :: r, c => forceNat k fun k => forceO o fun o => forceH r fun r => c ((k, o) :: r)
theorem forceH_eq : ∀ (l : List (Nat × AObj)) (c : List (Nat × AObj) → α), forceH l c = c l
  | [], c => rfl
  | (k, o) :: r, c => by simp [forceH, forceNat_eq, forceO_eq, forceH_eq r]
def forceLoc : Loc → (Loc → α) → α
  | .t i, c => forceNat i fun i => c (.t i)
  | .c k o, c => forceNat k fun k => forceNat o fun o => c (.c k o)
theorem forceLoc_eq (l : Loc) (c : Loc → α) : forceLoc l c = c l := by cases l <;> simp [forceLoc, forceNat_eq]
def forceLs : List Loc → (List Loc → α) → α
  | [], c => c []
  | l :: r, c => forceLoc l fun l => forceLs r fun r => c (l :: r)
theorem forceLs_eq : ∀ (l : List Loc) (c : List Loc → α), forceLs l c = c l
  | [], c => rfl
  | l :: r, c => by simp [forceLs, forceLoc_eq, forceLs_eq r]
def forceOwn : List (TypeId × List Loc) → (List (TypeId × List Loc) → α) → α
  | [], c => c []
  | (e, l) :: r, c => forceNat e fun e => forceLs l fun l => forceOwn r fun r => c ((e, l) :: r)
theorem forceOwn_eq : ∀ (l : List (TypeId × List Loc)) (c : List (TypeId × List Loc) → α), forceOwn l c = c l
  | [], c => rfl
  | (e, l) :: r, c => by simp [forceOwn, forceNat_eq, forceLs_eq, forceOwn_eq r]
def forceK : List (Nat × Nat) → (List (Nat × Nat) → α) → α
  | [], c => c []
  | (a, b) :: r, c => forceNat a fun a => forceNat b fun b => forceK r fun r => c ((a, b) :: r)
theorem forceK_eq : ∀ (l : List (Nat × Nat)) (c : List (Nat × Nat) → α), forceK l c = c l
  | [], c => rfl
  | (a, b) :: r, c => by simp [forceK, forceNat_eq, forceK_eq r]
def forceSt : St → (St → α) → α
  | ⟨t, H, o⟩, c => forceVs t fun t => forceH H fun H => forceOwn o fun o => c ⟨t, H, o⟩
theorem forceSt_eq (s : St) (c : St → α) : forceSt s c = c s := by cases s; simp [forceSt, forceVs_eq, forceH_eq, forceOwn_eq]
end

/-! ### Elder objects of these names are forgotten -/
def killV (ks : List Nat) (v : DV) : DV := if ks.any (fun k => mentions k v) then .undef else v
def killO (ks : List Nat) : AObj → AObj
  | .cells cs => .cells (cs.map (killV ks))
  | o => o
def killAll (ks : List Nat) (st : St) : St :=
  ⟨st.tmps.map (killV ks), (st.H.filter fun p => !ks.contains p.1).map fun p => (p.1, killO ks p.2), st.own.map fun c => (c.1, c.2.filter fun l => !(ks.any fun k => l.ofKey k))⟩
def killOk (ks : List Nat) (st : St) : Bool := decide ((st.H.map (·.1)).Nodup) && wkOwn st st.own (killAll ks st).own && keysIn (killAll ks st).H (killAll ks st).own
theorem WkT_kill (ks : List Nat) : ∀ l : List DV, WkT l (l.map (killV ks))
  | [] => trivial
  | v :: r => ⟨by
      unfold killV
      split
      · exact .inl rfl
      · exact .inr (.inl rfl), WkT_kill ks r⟩
theorem killAll_weak {ks : List Nat} {st : St} (h : killOk ks st = true) : Weak st (killAll ks st) := by
  unfold killOk at h
  rw [Bool.and_eq_true, Bool.and_eq_true, decide_eq_true_eq] at h
  obtain ⟨⟨hn, ho⟩, hk⟩ := h
  refine ⟨WkT_kill ks _, ?_, ho, hk⟩
  have main : ∀ l : List (Nat × AObj), (∀ p ∈ l, p ∈ st.H) → WkH st.H ((l.filter fun p => !ks.contains p.1).map fun p => (p.1, killO ks p.2)) := by
    intro l
    induction l with
    | nil => intro _; trivial
    | cons p r ih =>
      intro hl
      have hr := ih fun q hq => hl q (.tail _ hq)
      rw [List.filter_cons]
      split
      · refine ⟨⟨p.2, getKey_of_mem hn (hl p (.head _)), ?_⟩, hr⟩
        cases p.2 with
        | cells cs => exact WkT_kill ks cs
        | map es => exact rfl
        | iter s q => exact rfl
        | bld T u es => exact rfl
      · exact hr
  exact main st.H fun _ h => h

/-! ### The run -/

section
variable (P : Program) (G : GT)

abbrev CallF := FuncId → List D → Option (DV × Option TypeId)
abbrev CallHF := FuncId → St → Option (DV × List (Nat × AObj) × List (TypeId × List Loc))
/-- Behind a call that hands objects on. -/
def afterG (g : Bool) (callH : CallHF) (q : Bool) (all : Array Oper) (o : Oper) (f : FuncId) (as : List DV) (st : St) : Option St :=
  forceK (handK as st) fun L => forceSt (handS g L as (locsOf o) st) fun s0 =>
  match callH f s0 with
  | some (r, H1, own1) =>
    forceV r fun r => forceH H1 fun H1 => forceOwn own1 fun own1 =>
    if handOk L as st && keysFit L s0 r H1 && argOwn st.tmps.length (locsOf o) s0.own then
      if strictQ q all o then
        if s0.own.isEmpty && own1.isEmpty && eqH H1 s0.H && noOwnAt (L.map (·.2)) st.own && ((L.map (·.2)).all fun k => (getKey k st.H).isSome) && keyless (renV L r) then
          forceSt (finish st o.dst (renV L r) .no) some
        else none
      else
        match takeW st st.own (s0.own.map (srcCls L (locsOf o))) with
        | some own2 => forceSt (afterCall L o.dst st own2 r H1 own1) some
        | none => none
    else none
  | none => none
def afterH (callH : CallHF) (q : Bool) (all : Array Oper) (o : Oper) (f : FuncId) (as : List DV) (st : St) : Option St :=
  match afterG false callH q all o f as st with
  | some s => some s
  | none => afterG true callH q all o f as st
def runOps (call : CallF) (callH : CallHF) (q : Bool) (all : Array Oper) : List Oper → St → Option St
  | [], st => some st
  | o :: rest, st =>
    match wantedD o all st.tmps with
    | some true =>
      match callOf G o st with
      | some (f, ds) =>
        match call f ds with
        | some (r, own) => if !q || keyless r then runOps call callH q all rest (finish st o.dst r (if q && !noisy all o then .no else ownOA own)) else none
        | none =>
          if strictQ q all o then none else
          match afterH callH q all o f (ds.map .d) st with
          | some s' => runOps call callH q all rest s'
          | none => none
      | none =>
        match callOfH G o st with
        | some (f, as) =>
          match afterH callH q all o f as st with
          | some s' => runOps call callH q all rest s'
          | none => none
        | none =>
        match vop P G o st with
        | some out => runOps call callH q all rest (finish out.st o.dst out.v (actQ q all o out.v out.act))
        | none => none
    | some false => runOps call callH q all rest (finish st o.dst (.tup []) .no)
    | none => none
def runLoop (body : St → Option (Exit × St)) : Nat → St → Option (Exit × St)
  | 0, _ => none
  | n + 1, st => match body st with
    | some (.normal, s) => runLoop body n s
    | x => x
def runC (call : CallF) (callH : CallHF) (n : Nat) : Code → St → Option (Exit × St)
  | .skip, st => some (.normal, st)
  | .region _ ops draw, st =>
    if !draw || (P.follows .mixedOrders && lexD ops && freshB ops st) then (runOps P G call callH draw ops ops.toList st).map fun s => (.normal, s)
    else if P.follows .mixedOrders && lexD ops && killOk (newKeys ops) st && freshB ops (killAll (newKeys ops) st) then (runOps P G call callH draw ops ops.toList (killAll (newKeys ops) st)).map fun s => (.normal, s) else none
  | .seq x y, st => match runC call callH n x st with
    | some (.normal, s) => runC call callH n y s
    | x => x
  | .cond c x y, st =>
    match st.eval G c with
    | .d (.bool true) => runC call callH n x st
    | .d (.bool false) => runC call callH n y st
    | _ => none
  | .block id c, st => match runC call callH n c st with
    | some (.exit id', s) => if id' = id then some (.normal, s) else some (.exit id', s)
    | x => x
  | .loop c, st => runLoop (runC call callH n c) n st
  | .exit id, st => some (.exit id, st)
  | .ret, st => some (.ret, st)
  | .label _, st => some (.normal, st)
  | .scope c, st => match runC call callH n c st with
    | some (.goto _, _) => none
    | x => x
  | _, _ => none
/-- What is told of a state behind a call with objects. -/
def retH (s : St) : List Nat → Option (List (Nat × AObj))
  | [] => some []
  | k :: r => match getKey k s.H, retH s r with
    | some o, some l => some ((k, o) :: l)
    | _, _ => none
def ownOut (own : List (TypeId × List Loc)) : List (TypeId × List Loc) := (own.map fun c => (c.1, c.2.filter fun l => match l with
  | .t _ => true
  | .c k _ => decide (100000 ≤ k))).filter fun c => !c.2.isEmpty
def endH (P : Program) (s0 s : St) (rs : List ResultVar) : Option (DV × List (Nat × AObj) × List (TypeId × List Loc)) :=
  match resultV P s rs, retH s (s0.H.map (·.1)) with
  | some r, some H1 => if wkOwn (retSt s rs r) (retSt s rs r).own (ownOut (retSt s rs r).own) && keysIn H1 (ownOut (retSt s rs r).own) then some (r, H1, ownOut (retSt s rs r).own) else none
  | _, _ => none
/-- What a function answers; 'lib': what is known of some functions. -/
def evalB (lib : CallF) : Nat → CallF × CallHF
  | 0 => (lib, fun _ _ => none)
  | n + 1 => (fun f ds =>
    match lib f ds with
    | some x => some x
    | none =>
      match P.funcs[f]? with
      | some fn =>
        match fn.body with
        | some c =>
          if fn.name == "runtime.NumGoroutine" then none else
          match runC P G (evalB lib n).1 (evalB lib n).2 (n + 1) c (initSt ds fn.ntmps) with
          | some (.normal, s) => (vres P s fn.results.toList).map fun r => (r, vown s fn.results.toList)
          | some (.ret, s) => (vres P s fn.results.toList).map fun r => (r, vown s fn.results.toList)
          | _ => none
        | none => none
      | none => none,
    fun f s0 =>
      match P.funcs[f]? with
      | some fn =>
        match fn.body with
        | some c =>
          if fn.name == "runtime.NumGoroutine" then none else
          if (s0.own.all fun c => c.2.all fun l => match l with | .t i => decide (i < s0.tmps.length) | _ => true) then
          match runC P G (evalB lib n).1 (evalB lib n).2 (n + 1) c ⟨s0.tmps ++ List.replicate (fn.ntmps - s0.tmps.length) (.tup []), s0.H, s0.own⟩ with
          | some (.normal, s) => endH P s0 s fn.results.toList
          | some (.ret, s) => endH P s0 s fn.results.toList
          | _ => none
          else none
        | none => none
      | none => none)
def evalF (lib : CallF) (n : Nat) : CallF := (evalB P G lib n).1
end

section
variable {P : Program} {G : GT}
def CallOk (P : Program) (G : GT) (call : CallF) : Prop := ∀ f ds r own, call f ds = some (r, own) → Enters P f ∧ CS P G f ds r own

def CallHOk (P : Program) (G : GT) (callH : CallHF) : Prop := ∀ f s0 r H1 own1, callH f s0 = some (r, H1, own1) → Enters P f ∧ CH P G f s0 ⟨[r], H1, own1⟩

theorem afterG_ok {g : Bool} {callH : CallHF} (hh : CallHOk P G callH) {q : Bool} {all : Array Oper} {o : Oper} {f : FuncId} {as : List DV} {st s' : St} (h : afterG g callH q all o f as st = some s') {K : St → Prop} (hk : K s') : hcall P G (strictQ q all o) f as (locsOf o) o.dst st K := by
  unfold afterG at h
  simp only [forceK_eq, forceSt_eq, forceV_eq, forceH_eq, forceOwn_eq] at h
  generalize handK as st = L at h
  split at h
  · rename_i r H1 own1 hr
    obtain ⟨he, hCH⟩ := hh _ _ _ _ _ hr
    split at h
    · rename_i hok
      rw [Bool.and_eq_true, Bool.and_eq_true] at hok
      obtain ⟨⟨hok, hfit⟩, harg⟩ := hok
      simp only [handOk, Bool.and_eq_true, decide_eq_true_eq] at hok
      obtain ⟨⟨hn, ha⟩, ho⟩ := hok
      have hargs : WkT as (renVs L (handS g L as (locsOf o) st).tmps) := by
        show WkT as (renVs _ (renVs _ as))
        rw [renVs_inv hn as ha]
        exact WkT_same as
      have hsame : sameH st.H (renH L (handS g L as (locsOf o) st).H) := pick_same hn _ ho
      unfold hcall
      split at h
      · rename_i hro
        rw [if_pos hro]
        split at h
        · rename_i hx
          rw [Bool.and_eq_true, Bool.and_eq_true, Bool.and_eq_true, Bool.and_eq_true, Bool.and_eq_true, List.isEmpty_iff, List.isEmpty_iff] at hx
          obtain ⟨⟨⟨⟨⟨x1, x2⟩, x3⟩, x4⟩, x5⟩, x6⟩ := hx
          have x3 := eqH_ok _ _ x3
          cases h
          subst x2 x3
          have hCH' : CH P G f ⟨(handS g L as (locsOf o) st).tmps, (handS g L as (locsOf o) st).H, []⟩ ⟨[r], (handS g L as (locsOf o) st).H, []⟩ := by
            have : (⟨(handS g L as (locsOf o) st).tmps, (handS g L as (locsOf o) st).H, []⟩ : St) = handS g L as (locsOf o) st := by rw [← x1]
            rw [this]
            exact hCH
          exact ⟨_, _, ⟨he, RO.of_CH hCH' L (by
            have : (⟨(handS g L as (locsOf o) st).tmps, (handS g L as (locsOf o) st).H, []⟩ : St) = handS g L as (locsOf o) st := by rw [← x1]
            rw [this]
            exact hfit) hargs hsame, x4, x5, x6⟩, hk⟩
        · cases h
      · rename_i hro
        rw [if_neg hro]
        split at h
        · rename_i own2 ht
          cases h
          exact ⟨_, ⟨he, CallTo.of_CH hCH L hfit hargs (sameH_WkH hsame) ht harg⟩, hk⟩
        · cases h
    · cases h
  · cases h
theorem afterH_ok {callH : CallHF} (hh : CallHOk P G callH) {q : Bool} {all : Array Oper} {o : Oper} {f : FuncId} {as : List DV} {st s' : St} (h : afterH callH q all o f as st = some s') {K : St → Prop} (hk : K s') : hcall P G (strictQ q all o) f as (locsOf o) o.dst st K := by
  unfold afterH at h
  split at h
  · rename_i s hs
    cases h
    exact afterG_ok hh hs hk
  · exact afterG_ok hh h hk
theorem runOps_ok {call : CallF} {callH : CallHF} (hc : CallOk P G call) (hh : CallHOk P G callH) {q : Bool} {all : Array Oper} : ∀ {l : List Oper} {st s : St}, runOps P G call callH q all l st = some s → ∀ K : St → Prop, K s → VOps P G q all l st K
  | [], st, s, h, K, hk => by simp [runOps] at h; subst h; exact hk
  | o :: rest, st, s, h, K, hk => by
    unfold runOps at h
    unfold VOps vOne
    split at h
    · rename_i hw
      simp only [hw]
      split at h
      · rename_i f ds hcall
        simp only [hcall]
        split at h
        · rename_i r own hr
          split at h
          · rename_i hkl
            exact .inl ⟨r, own, hc f ds r own hr, fun hq => by subst hq; simpa using hkl, runOps_ok hc hh h K hk⟩
          · cases h
        · split at h
          · cases h
          · rename_i hq
            split at h
            · rename_i s' hs
              have h1 := afterH_ok (K := fun s => VOps P G q all rest s K) hh hs (runOps_ok hc hh h K hk)
              unfold VM.hcall at h1
              rw [if_neg hq] at h1
              exact .inr ⟨by simpa using hq, h1⟩
            · cases h
      · rename_i hcall
        simp only [hcall]
        split at h
        · rename_i f as hch
          simp only [hch]
          split at h
          · rename_i s' hs
            exact afterH_ok hh hs (runOps_ok hc hh h K hk)
          · cases h
        rename_i hch
        simp only [hch]
        split at h
        · rename_i out ho
          simp only [ho]
          exact runOps_ok hc hh h K hk
        · cases h
    · rename_i hw
      simp only [hw]
      exact runOps_ok hc hh h K hk
    · cases h

theorem runC_ok {call : CallF} {callH : CallHF} (hc : CallOk P G call) (hh : CallHOk P G callH) {n : Nat} : ∀ (c : Code) {st : St} {e : Exit} {s : St}, runC P G call callH n c st = some (e, s) → ∀ Q : Exit → St → Prop, Q e s → SW P G c st Q
  | .skip, st, e, s, h, Q, hq => by simp [runC] at h; obtain ⟨rfl, rfl⟩ := h; exact VW_ok .skip _ Q hq
  | .region id ops draw, st, e, s, h, Q, hq => by
    unfold runC at h
    split at h
    · rename_i hd
      simp only [Option.map_eq_some_iff, Prod.mk.injEq] at h
      obtain ⟨s', h1, rfl, rfl⟩ := h
      refine VW_ok (.region id ops draw) st Q ⟨fun hdr => ?_, runOps_ok hc hh h1 _ hq⟩
      subst hdr
      simp only [Bool.not_true, Bool.false_or, Bool.and_eq_true] at hd
      exact ⟨hd.1.1, hd.1.2, hd.2⟩
    · split at h
      · rename_i hd
        simp only [Bool.and_eq_true] at hd
        simp only [Option.map_eq_some_iff, Prod.mk.injEq] at h
        obtain ⟨s', h1, rfl, rfl⟩ := h
        exact SW.weak (killAll_weak hd.1.2) (VW_ok (.region id ops draw) _ Q ⟨fun _ => ⟨hd.1.1.1, hd.1.1.2, hd.2⟩, runOps_ok hc hh h1 _ hq⟩)
      · cases h
  | .seq x y, st, e, s, h, Q, hq => by
    unfold runC at h
    refine SW.seq ?_
    split at h
    · rename_i s1 h1
      exact runC_ok hc hh x h1 _ (runC_ok hc hh y h Q hq)
    · rename_i h1
      refine runC_ok hc hh x h _ ?_
      cases e with
      | normal => exact absurd h (h1 s)
      | _ => exact hq
  | .cond c x y, st, e, s, h, Q, hq => by
    unfold runC at h
    split at h
    · rename_i hcv; exact SW.cond hcv (runC_ok hc hh x h Q hq)
    · rename_i hcv; exact SW.cond hcv (runC_ok hc hh y h Q hq)
    · cases h
  | .block id c, st, e, s, h, Q, hq => by
    unfold runC at h
    refine SW.block ?_
    split at h
    · rename_i id' s1 h1
      refine runC_ok hc hh c h1 _ ?_
      split at h
      · rename_i hid
        simp at h; obtain ⟨rfl, rfl⟩ := h
        simp only [hid, if_true]; exact hq
      · rename_i hid
        simp at h; obtain ⟨rfl, rfl⟩ := h
        simp only [if_neg hid]; exact hq
    · rename_i h1
      refine runC_ok hc hh c h _ ?_
      cases e with
      | exit id' => exact absurd h (h1 id' s)
      | _ => exact hq
  | .loop c, st, e, s, h, Q, hq => by
    unfold runC at h
    refine SW.rounds n ?_
    have ih := fun {st : St} {e : Exit} {s : St} => runC_ok (n := n) hc hh c (st := st) (e := e) (s := s)
    have main : ∀ (m : Nat) (st : St), runLoop (runC P G call callH n c) m st = some (e, s) → SRounds P G c Q m st := by
      intro m
      induction m with
      | zero => intro st h; cases h
      | succ m im =>
        intro st h
        unfold runLoop at h
        unfold SRounds
        split at h
        · rename_i s1 h1
          exact ih h1 _ (im s1 h)
        · rename_i h1
          refine ih h _ ?_
          cases e with
          | normal => exact absurd h (h1 s)
          | _ => exact hq
    exact main n st h
  | .exit id, st, e, s, h, Q, hq => by simp [runC] at h; obtain ⟨rfl, rfl⟩ := h; exact VW_ok (.exit id) _ Q hq
  | .ret, st, e, s, h, Q, hq => by simp [runC] at h; obtain ⟨rfl, rfl⟩ := h; exact VW_ok .ret _ Q hq
  | .rangeFunc .., _, _, _, h, _, _ => by simp [runC] at h
  | .scope c, st, e, s, h, Q, hq => by
    unfold runC at h
    refine SW.scope ?_
    split at h
    · cases h
    · rename_i h1
      refine runC_ok hc hh c h _ ?_
      cases e with
      | goto l => exact absurd h (h1 l s)
      | _ => exact hq
  | .label l, st, e, s, h, Q, hq => by simp [runC] at h; obtain ⟨rfl, rfl⟩ := h; exact VW_ok (.label l) _ Q hq
  | .goto .., _, _, _, h, _, _ => by simp [runC] at h

theorem retH_ok {s : St} : ∀ {ks : List Nat} {H1 : List (Nat × AObj)}, retH s ks = some H1 → WkH s.H H1
  | [], H1, h => by simp [retH] at h; subst h; trivial
  | k :: r, H1, h => by
    unfold retH at h
    split at h
    · rename_i o l ho hl
      simp only [Option.some.injEq] at h
      subst h
      exact ⟨⟨o, ho, by cases o <;> simp [WkO, WkT_same]⟩, retH_ok hl⟩
    · cases h
theorem endH_ok {s0 s : St} {rs : List ResultVar} {r : DV} {H1 : List (Nat × AObj)} {own1 : List (TypeId × List Loc)} (h : endH P s0 s rs = some (r, H1, own1)) : endOk P s rs ⟨[r], H1, own1⟩ := by
  unfold endH at h
  split at h
  · rename_i r' H' hr hH
    split at h
    · rename_i hx
      simp only [Option.some.injEq, Prod.mk.injEq] at h
      obtain ⟨rfl, rfl, rfl⟩ := h
      rw [Bool.and_eq_true] at hx
      unfold endOk
      rw [hr]
      exact ⟨WkT_same _, (retH_ok hH : WkH s.H H'), hx.1, hx.2⟩
    · cases h
  · cases h
theorem evalB_ok {lib : CallF} (hl : CallOk P G lib) : ∀ n, CallOk P G (evalB P G lib n).1 ∧ CallHOk P G (evalB P G lib n).2
  | 0 => ⟨fun f ds r own h => hl f ds r own h, fun _ _ _ _ _ h => by cases h⟩
  | n + 1 => by
    refine ⟨fun f ds r own h => ?_, fun f s0 r H1 own1 h => ?_⟩
    · unfold evalB at h
      simp only at h
      split at h
      · rename_i x hx
        cases h
        exact hl f ds r own hx
      · split at h
        · rename_i fn hf
          split at h
          · rename_i c hb
            split at h
            · cases h
            · rename_i hn
              refine ⟨⟨fn, hf, by simp [hb], by simpa using hn⟩, ?_⟩
              refine CS.of_SW hf hb ?_
              split at h
              · rename_i s hrun
                simp only [Option.map_eq_some_iff, Prod.mk.injEq] at h
                obtain ⟨r', h1, rfl, h2⟩ := h
                exact runC_ok (evalB_ok hl n).1 (evalB_ok hl n).2 c hrun _ ⟨.inl rfl, h1, h2⟩
              · rename_i s hrun
                simp only [Option.map_eq_some_iff, Prod.mk.injEq] at h
                obtain ⟨r', h1, rfl, h2⟩ := h
                exact runC_ok (evalB_ok hl n).1 (evalB_ok hl n).2 c hrun _ ⟨.inr rfl, h1, h2⟩
              · cases h
          · cases h
        · cases h
    · unfold evalB at h
      simp only at h
      split at h
      · rename_i fn hf
        split at h
        · rename_i c hb
          split at h
          · cases h
          · rename_i hn
            split at h
            · rename_i hT
              refine ⟨⟨fn, hf, by simp [hb], by simpa using hn⟩, ?_⟩
              refine CH.of_SW hf hb rfl rfl hT ?_
              split at h
              · rename_i s hrun
                exact runC_ok (evalB_ok hl n).1 (evalB_ok hl n).2 c hrun _ ⟨.inl rfl, endH_ok h⟩
              · rename_i s hrun
                exact runC_ok (evalB_ok hl n).1 (evalB_ok hl n).2 c hrun _ ⟨.inr rfl, endH_ok h⟩
              · cases h
            · cases h
        · cases h
      · cases h
theorem evalF_ok {lib : CallF} (hl : CallOk P G lib) (n : Nat) : CallOk P G (evalF P G lib n) := (evalB_ok hl n).1

def noLib : CallF := fun _ _ => none
theorem noLib_ok : CallOk P G noLib := fun _ _ _ _ h => by cases h
/-- A CALL ON GIVEN DATA, RUN BY THE KERNEL. -/
theorem CS.run (n : Nat) {f : FuncId} {ds : List D} {r : DV} {own : Option TypeId} (h : evalF P G noLib n f ds = some (r, own)) : CS P G f ds r own := (evalF_ok noLib_ok n f ds r own h).2
end
end Go.VM
end
