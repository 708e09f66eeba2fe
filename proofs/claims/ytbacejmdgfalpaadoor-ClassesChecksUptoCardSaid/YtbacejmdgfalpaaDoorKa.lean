/- Classes, instances, definitions and modules as data, and how they lie in cells. No condition. -/
import Derived.Test.YtbacejmdgfalpaaDoorZ8
set_option linter.unusedVariables false
set_option linter.unusedSimpArgs false
set_option linter.unusedSectionVars false
namespace Go.Proofs.YtbacejmdgfalpaaDoor
open Go Go.VM
set_option maxRecDepth 100000
set_option maxHeartbeats 4000000
/-- A class and a variable. -/
abbrev Nd := Nm × Nm
def ndC (n : Nd) : List D := [.str n.1, .str n.2]
/-- A method. -/
structure Md where
  name : Nm
  ty : Ty
def mdC (m : Md) : List D := [.str m.name, .int .i64 m.ty.op, .str m.ty.name, .sl (m.ty.args.map tyC), .sl (strs m.ty.names), .int .i64 m.ty.pred.op, .str m.ty.pred.name, .int .i64 m.ty.pred.n, .sl (m.ty.pred.kids.map prC), .sl (m.ty.preds.map prC)]
/-- A class. -/
structure Cl where
  name : Nm
  var : Nm
  mds : List Md
def clC (c : Cl) : List D := [.str c.name, .str c.var, .sl (c.mds.map mdC)]
/-- A definition: what is not looked at stays as it is. -/
structure Df where
  name : Nm
  params : List Nm
  e0 : D
  e1 : D
  e2 : D
  e3 : D
  e4 : D
  e5 : D
  e6 : D
  mode : D
  typed : D
  vars : D
  needs : List Nd
  abs : D
  bounds : D
  ty : Ty
  metric : D
def dfC (d : Df) : List D := [.str d.name, .sl (strs d.params), d.e0, d.e1, d.e2, d.e3, d.e4, d.e5, d.e6, d.mode, d.typed, d.vars, .sl (d.needs.map ndC), d.abs, d.bounds,
  .int .i64 d.ty.op, .str d.ty.name, .sl (d.ty.args.map tyC), .sl (strs d.ty.names), .int .i64 d.ty.pred.op, .str d.ty.pred.name, .int .i64 d.ty.pred.n, .sl (d.ty.pred.kids.map prC), .sl (d.ty.preds.map prC), d.metric]
/-- An instance. -/
structure In where
  cls : Nm
  ty : Ty
  needs : List Nd
  defs : List Df
def inC (x : In) : List D := [.str x.cls, .int .i64 x.ty.op, .str x.ty.name, .sl (x.ty.args.map tyC), .sl (strs x.ty.names), .int .i64 x.ty.pred.op, .str x.ty.pred.name, .int .i64 x.ty.pred.n, .sl (x.ty.pred.kids.map prC), .sl (x.ty.preds.map prC), .sl (x.needs.map ndC), .sl (x.defs.map dfC)]
/-- A module: what is not looked at stays as it is. -/
structure Mo where
  datas : D
  cls : List Cl
  ins : List In
  measures : D
  quals : D
  defs : List Df
def moC (m : Mo) : List D := [m.datas, .sl (m.cls.map clC), .sl (m.ins.map inC), m.measures, m.quals, .sl (m.defs.map dfC)]
theorem nds_two (l : List Nd) : (∀ x, x ∈ l.map ndC → x.length = 2) = True := eq_true fun x hx => by
  obtain ⟨p, _, rfl⟩ := List.mem_map.1 hx; rfl
theorem mds_ten (l : List Md) : (∀ x, x ∈ l.map mdC → x.length = 10) = True := eq_true fun x hx => by
  obtain ⟨p, _, rfl⟩ := List.mem_map.1 hx; rfl
theorem cls_three (l : List Cl) : (∀ x, x ∈ l.map clC → x.length = 3) = True := eq_true fun x hx => by
  obtain ⟨p, _, rfl⟩ := List.mem_map.1 hx; rfl
theorem dfs_len (l : List Df) : (∀ x, x ∈ l.map dfC → x.length = 25) = True := eq_true fun x hx => by
  obtain ⟨p, _, rfl⟩ := List.mem_map.1 hx; rfl
theorem ins_len (l : List In) : (∀ x, x ∈ l.map inC → x.length = 12) = True := eq_true fun x hx => by
  obtain ⟨p, _, rfl⟩ := List.mem_map.1 hx; rfl
theorem nds_two' (l : List Nd) : (∀ x, x ∈ l → (ndC x).length = 2) = True := eq_true fun x _ => rfl
theorem mds_ten' (l : List Md) : (∀ x, x ∈ l → (mdC x).length = 10) = True := eq_true fun x _ => rfl
theorem cls_three' (l : List Cl) : (∀ x, x ∈ l → (clC x).length = 3) = True := eq_true fun x _ => rfl
theorem dfs_len' (l : List Df) : (∀ x, x ∈ l → (dfC x).length = 25) = True := eq_true fun x _ => rfl
theorem ins_len' (l : List In) : (∀ x, x ∈ l → (inC x).length = 12) = True := eq_true fun x _ => rfl
attribute [simp] nds_two mds_ten cls_three dfs_len ins_len nds_two' mds_ten' cls_three' dfs_len' ins_len'
theorem nds_get {l : List Nd} {i : Nat} (h : i < l.length) : (l.map ndC)[i]? = some (ndC l[i]) := by simp [h]
theorem mds_get {l : List Md} {i : Nat} (h : i < l.length) : (l.map mdC)[i]? = some (mdC l[i]) := by simp [h]
theorem cls_get {l : List Cl} {i : Nat} (h : i < l.length) : (l.map clC)[i]? = some (clC l[i]) := by simp [h]
theorem dfs_get {l : List Df} {i : Nat} (h : i < l.length) : (l.map dfC)[i]? = some (dfC l[i]) := by simp [h]
theorem ins_get {l : List In} {i : Nat} (h : i < l.length) : (l.map inC)[i]? = some (inC l[i]) := by simp [h]
attribute [simp] ndC mdC clC dfC inC moC
/-! ### What is looked for -/
def zeroTy : Ty := ⟨0, [], [], [], ⟨0, [], 0, []⟩, []⟩
attribute [simp] zeroTy
def clOf (l : List Cl) (nm : Nm) : Cl := (l.find? fun c => c.name = nm).getD ⟨[], [], []⟩
def clHas (l : List Cl) (nm : Nm) : Bool := (l.find? fun c => c.name = nm).isSome
def mdOf (l : List Md) (nm : Nm) : Md := (l.find? fun c => c.name = nm).getD ⟨[], zeroTy⟩
def mdHas (l : List Md) (nm : Nm) : Bool := (l.find? fun c => c.name = nm).isSome
theorem cl_step {l : List Cl} {nm : Nm} {i : Nat} (h : i < l.length) : (l.drop i).find? (fun c => decide (c.name = nm)) = if l[i].name = nm then some l[i] else (l.drop (i + 1)).find? fun c => decide (c.name = nm) := by
  rw [List.drop_eq_getElem_cons h, List.find?_cons]
  by_cases he : l[i].name = nm <;> simp [he]
theorem md_step {l : List Md} {nm : Nm} {i : Nat} (h : i < l.length) : (l.drop i).find? (fun c => decide (c.name = nm)) = if l[i].name = nm then some l[i] else (l.drop (i + 1)).find? fun c => decide (c.name = nm) := by
  rw [List.drop_eq_getElem_cons h, List.find?_cons]
  by_cases he : l[i].name = nm <;> simp [he]
def parN (t : Ty) : Int := if t.op = 6 then (if 0 < (t.args.length : Int) - 1 then (t.args.length : Int) - 1 else 0) else 0
/-- The error of definitions behind others. -/
def dfE (c : Cl) : List Df → List Df → Int
  | _, [] => 0
  | done, d :: r => if mdHas c.mds d.name = false then 5 else if d.name ∈ done.map (·.name) then 4 else if (d.params.length : Int) ≠ parN (mdOf c.mds d.name).ty then 13 else dfE c (done ++ [d]) r
/-- Methods without a definition. -/
def lackE (l : List Df) : List Md → Int
  | [] => 0
  | y :: r => if y.name ∈ l.map (·.name) then lackE l r else 5
def defsE (c : Cl) (l : List Df) : Int := if dfE c [] l ≠ 0 then dfE c [] l else lackE l c.mds
def needsE (cs : List Cl) (vars : List Nm) : List Nd → Int
  | [] => 0
  | n :: r => if clHas cs n.1 = false then 17 else if n.2 ∈ vars then needsE cs vars r else 5
/-- The error of an instance behind others. -/
def inE (cs : List Cl) (done : List In) (x : In) : Int :=
  if clHas cs x.cls = false then 17 else if (done.any fun y => y.cls = x.cls ∧ y.ty.op = x.ty.op ∧ y.ty.name = x.ty.name) then 4
  else if needsE cs (varsT x.ty []) x.needs ≠ 0 then needsE cs (varsT x.ty []) x.needs else defsE (clOf cs x.cls) x.defs
def insE (cs : List Cl) : List In → List In → Int
  | _, [] => 0
  | done, x :: r => if inE cs done x ≠ 0 then inE cs done x else insE cs (done ++ [x]) r
def formsE : List Cl → Int
  | [] => 0
  | c :: r => if c.mds.any fun x => c.var ∉ varsT x.ty [] then 6 else formsE r
def sigE (cs : List Cl) : List Df → Int
  | [] => 0
  | d :: r => if d.needs.any fun n => clHas cs n.1 = false then 17 else sigE cs r
def checkM (m : Mo) : Int := if formsE m.cls ≠ 0 then formsE m.cls else if insE m.cls [] m.ins ≠ 0 then insE m.cls [] m.ins else sigE m.cls m.defs
end Go.Proofs.YtbacejmdgfalpaaDoor
