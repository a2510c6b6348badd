import Derived.Test.YtbnagcgfmlmgnaaVb
import Derived.WalkKit
import Derived.ProofKit
import Derived.OpenShut
import Derived.ShutString
import Derived.ChangeOld
import Derived.Below
import Derived.SizedLaws
import Derived.Deep.Slices
import Derived.Carry
import Derived.KernelRfl
/- The abstract machine as it is run over literal code; the types of the program; what a law's arguments are. No condition. -/
namespace Vx
open Go
set_option linter.unusedVariables false

/-! ## The machine once more, with its arithmetic and its lists behind names, so that it can be run on literal code -/
structure Pm where
  ar : BinOp → IntKind → Int → Int → Int
  cm : BinOp → Int → Int → Bool
  sc : BinOp → ByteArray → ByteArray → Bool
  bc : BinOp → Bool → Bool → Bool
  nt : Bool → Bool
  ng : IntKind → Int → Int
  ln : List (List T) → Int
  sz : ByteArray → Int
  tn : Int → Nat
  idx : List (List T) → Int → Option (List T)
  get : List (List T) → Nat → Option (List T)
  set : List (List T) → Nat → List T → List (List T)
  vw : List (List T) → List (List T)
  rep : Int → Int → List T → Option (List (List T))
  nf : Bool → List (List T) → Bool

def Pm.real : Pm where
  ar op k a b := match op with | .add => k.wrap (a + b) | .sub => k.wrap (a - b) | .mul => k.wrap (a * b) | _ => 0
  cm op a b := match op with
    | .eql => decide (a = b) | .neq => decide (a ≠ b) | .lss => decide (a < b) | .leq => decide (a ≤ b) | .gtr => decide (b < a) | .geq => decide (b ≤ a)
    | _ => false
  sc op a b := match op with | .eql => decide (a = b) | _ => decide (a ≠ b)
  bc op a b := match op with | .eql => a == b | _ => a != b
  nt b := !b
  ng k n := k.wrap (-n)
  ln xs := xs.length
  sz s := s.size
  tn i := i.toNat
  idx xs i := if 0 ≤ i then xs[i.toNat]? else none
  get xs i := xs[i]?
  set xs i r := xs.set i r
  vw xs := T.viewR xs
  rep n m r := if 0 ≤ n ∧ n = m ∧ n ≤ (2 ^ 38 : Nat) then some (List.replicate n.toNat r) else none
  nf o xs := (o || xs.isEmpty) && T.noFzR xs

section
variable (π : Pm) (ti : TypeId → Option TI)

def isStrX (t : TypeId) : Bool := match ti t with | some { kd := .str, .. } => true | _ => false
def isBoolX (t : TypeId) : Bool := match ti t with | some { kd := .bool, .. } => true | _ => false
def isSlX (t : TypeId) : Bool := match ti t with | some { elem := some _, .. } => true | _ => false
def xbin (xt : TypeId) (op : BinOp) (x y : T) : Option T :=
  match op, x, y with
  | .add, .int k a, .int j b => if k = j then some (.int k (π.ar .add k a b)) else none
  | .sub, .int k a, .int j b => if k = j then some (.int k (π.ar .sub k a b)) else none
  | .mul, .int k a, .int j b => if k = j then some (.int k (π.ar .mul k a b)) else none
  | .eql, .int k a, .int j b => if k = j then some (.bool (π.cm .eql a b)) else none
  | .neq, .int k a, .int j b => if k = j then some (.bool (π.cm .neq a b)) else none
  | .lss, .int k a, .int j b => if k = j then some (.bool (π.cm .lss a b)) else none
  | .leq, .int k a, .int j b => if k = j then some (.bool (π.cm .leq a b)) else none
  | .gtr, .int k a, .int j b => if k = j then some (.bool (π.cm .gtr a b)) else none
  | .geq, .int k a, .int j b => if k = j then some (.bool (π.cm .geq a b)) else none
  | .eql, .str a, .str b => some (.bool (π.sc .eql a b))
  | .neq, .str a, .str b => some (.bool (π.sc .neq a b))
  | .eql, .bool a, .bool b => if isBoolX ti xt then some (.bool (π.bc .eql a b)) else none
  | .neq, .bool a, .bool b => if isBoolX ti xt then some (.bool (π.bc .neq a b)) else none
  | _, _, _ => none

def xview : T → T
  | .sl _ sz xs => .sl false sz (π.vw xs)
  | t => t
def xnoFz : T → Bool
  | .sl o _ xs => π.nf o xs
  | _ => true
def xnoFzC : C → Bool
  | .t x => xnoFz π x
  | _ => false
def xnoFzSV : SV → Bool
  | .c x => xnoFzC π x
  | .agg row => row.all (xnoFzC π)
  | .tup l => l.all fun x => match x with | .c x => xnoFzC π x | .agg row => row.all (xnoFzC π) | .tup _ => false
def T.xat (t : T) : List Hop → Option T
  | [] => some t
  | h :: p => match T.xat t p with
    | some (.sl true sz xs) => if h.sz = sz then match π.get xs h.i with | some r => r[h.c]? | none => none else none
    | _ => none
def T.xput (t : T) : List Hop → T → T
  | [], u => u
  | h :: p, u => match T.xat π t p with
    | some (.sl true sz xs) => match π.get xs h.i with
      | some r => T.xput t p (.sl true sz (π.set xs h.i (r.set h.c u)))
      | none => T.xput t p (.sl true sz xs)
    | some x => T.xput t p x
    | none => t
/-- Some cells of a row, from the hop on. -/
def T.xcells (t : T) (h : Hop) (p : List Hop) (n : Nat) : Option (List T) :=
  match n with
  | 0 => some []
  | n + 1 => match T.xat π t p with
    | some (.sl true sz xs) => if h.sz = sz then match π.get xs h.i with | some r => if h.c + (n + 1) ≤ r.length then some ((r.drop h.c).take (n + 1)) else none | none => none else none
    | _ => none
def T.xputs (t : T) (h : Hop) (p : List Hop) (ts : List T) : T :=
  match ts with
  | [] => t
  | ts => match T.xat π t p with
    | some (.sl true sz xs) => match π.get xs h.i with
      | some r => T.xput π t p (.sl true sz (π.set xs h.i (r.take h.c ++ ts ++ r.drop (h.c + ts.length))))
      | none => t
    | _ => t
def xderef (a : CA) (f : T → T → Rd Eff) : Rd Eff :=
  place a.root a.c fun t => match T.xat π t a.path with | some x => f t x | none => fail
def xlen (s : Bool) : T → Option Int
  | .nil => if s then none else some 0
  | .sl _ _ xs => if s then none else some (π.ln xs)
  | .str b => if s then some (π.sz b) else none
  | _ => none

def xstepLoad (o : Oper) (t : TypeId) (p : Operand) : Rd Eff :=
  match ti t with
  | none => fail
  | some i => rdS p fun sv => match sv with
    | .c (.fp row c) =>
      if i.agg then put o (.agg (((row.drop c).take i.size).map C.t)) [] (c + i.size ≤ row.length)
      else match row[c]? with | some x => put o (.c (.t x)) [] (i.size = 1) | none => fail
    | .c (.ptr ⟨.obj k, c, []⟩) => .kind k fun kd => match kd with
      | some (.box m) =>
        if i.agg then readCells k c i.size fun l => put o (.agg l) [] (c + i.size ≤ m)
        else .cell k c fun x _ => put o (.c (x.alias ⟨.obj k, c, []⟩)) [] (c < m ∧ i.size = 1)
      | _ => fail
    | .c (.ptr ⟨r, c, h :: q⟩) => place r c fun t =>
      if i.agg then match T.xcells π t h q i.size with
        | some l => put o (.agg (aliasHop ⟨r, c, q⟩ h l)) [] True
        | none => fail
      else match T.xat π t (h :: q) with
        | some x => put o (.c ((C.t x).alias ⟨r, c, h :: q⟩)) [] (i.size = 1)
        | none => fail
    | _ => fail
def xstepStore (o : Oper) (t : TypeId) (p v : Operand) : Rd Eff :=
  match ti t with
  | none => fail
  | some i => rdS p fun sv => match sv with
    | .c (.ptr ⟨.obj k, c, []⟩) => .kind k fun kd => match kd with
      | some (.box m) => moveS v fun row us => put o undefS (us ++ storeCells' k c row) (row.length = i.size ∧ c + i.size ≤ m ∧ row.all C.one = true)
      | _ => fail
    | .c (.ptr ⟨r, c, h :: q⟩) => takeS v fun ts us => place r c fun t => match T.xcells π t h q ts.length with
        | some _ => put o undefS (us ++ [.set r c (T.xputs π t h q ts)] ++ (if ts.any T.isOwn then dirtP r c else [])) (ts.length = i.size ∧ 0 < i.size ∧ ts.all T.one = true)
        | none => fail
    | _ => fail
def xstepLen (o : Oper) (t : TypeId) (x : Operand) : Rd Eff :=
  if isStrX ti t || isSlX ti t then rdS x fun sv => match sv with
    | .c (.t y) => match xlen π (isStrX ti t) y with | some n => put o (.c (.t (.int .i64 n))) [] True | none => fail
    | .c (.ref a) => xderef π a fun _ y => match y with | .sl true _ xs => if isStrX ti t then fail else put o (.c (.t (.int .i64 (π.ln xs)))) [] True | _ => fail
    | _ => fail
  else fail
def xstepIndex (o : Oper) (t : TypeId) (x i : Operand) : Rd Eff :=
  match ti t with
  | some { elem := some e, .. } => match ti e with
    | some ei => rdS x fun sv => rdT i fun t => match t with
      | .int _ i => match sv with
        | .c (.t (.sl false sz xs)) => if sz = ei.size then match π.idx xs i with | some row => put o (.c (.fp row 0)) [] True | none => fail else fail
        | .c (.ref a) => xderef π a fun _ t => match t with
          | .sl true sz xs => if sz = ei.size then match π.idx xs i with | some _ => put o (.c (.ptr ⟨a.root, a.c, ⟨π.tn i, sz, 0⟩ :: a.path⟩)) [] True | none => fail else fail
          | _ => fail
        | _ => fail
      | _ => fail
    | none => fail
  | _ => fail

def xstep (o : Oper) : Rd Eff :=
  match o.op with
  | .move x => rdS x fun sv => put o sv [] (sv.row.isSome = true)
  | .assign x => rdS x fun sv => match sv with
    | .c x => moveL [x] fun l us => match l with | [y] => put o (.c y) us True | _ => fail
    | .agg row => moveL row fun l us => put o (.agg l) us True
    | .tup _ => fail
  | .nilCheck x => rdS x fun sv => match sv with
    | .c (.ptr ⟨r, c, []⟩) => put o (.c (.ptr ⟨r, c, []⟩)) [] True
    | .c (.ptr ⟨r, c, h :: q⟩) => place r c fun _ => put o (.c (.ptr ⟨r, c, h :: q⟩)) [] True
    | .c (.fp r c) => put o (.c (.fp r c)) [] True
    | _ => fail
  | .binOp op xt x y _ => rdT x fun a => rdT y fun b => match xbin π ti xt op a b with | some t => put o (.c (.t t)) [] True | none => fail
  | .unOp .not _ x => rdT x fun a => match a with | .bool b => put o (.c (.t (.bool (π.nt b)))) [] True | _ => fail
  | .unOp .neg _ x => rdT x fun a => match a with | .int k n => put o (.c (.t (.int k (π.ng k n)))) [] True | _ => fail
  | .fieldAddr s x f => match ti s with
    | some i => match i.fld[f]? with
      | some (off, _ + 1) => rdS x fun sv => match sv with
        | .c (.fp row c) => put o (.c (.fp row (c + off))) [] True
        | .c (.ptr ⟨r, c, []⟩) => put o (.c (.ptr ⟨r, c + off, []⟩)) [] True
        | .c (.ptr ⟨r, c, h :: q⟩) => place r c fun _ => put o (.c (.ptr ⟨r, c, { h with c := h.c + off } :: q⟩)) [] True
        | _ => fail
      | _ => fail
    | none => fail
  | .indexAddr t x i => xstepIndex π ti o t x i
  | .load t p => xstepLoad π ti o t p
  | .store t p v => xstepStore π ti o t p v
  | .alloc t => match o.dst, ti t with
    | some d, some i => .kind (100000 + d) fun kd => .mp (100000 + d) fun m => match kd, m with
      | none, none => put o (.c (.ptr ⟨.obj (100000 + d), 0, []⟩)) [.box (100000 + d) (i.zero.map C.t)] (i.zero.length = i.size ∧ 0 < i.size)
      | _, _ => fail
    | _, _ => fail
  | .box t x => match o.dst, ti t with
    | some d, some i => .kind (100000 + d) fun kd => .mp (100000 + d) fun m => match kd, m with
      | none, none => moveS x fun row us => put o (.c (.ptr ⟨.obj (100000 + d), 0, []⟩)) (us ++ [.box (100000 + d) row]) (i.size = row.length)
      | _, _ => fail
    | _, _ => fail
  | .build t parts => match ti t with
    | some i => rdParts parts.toList fun ps => match buildRow i.fld (i.zero.map C.t) ps with
      | some row => put o (.agg row) [] (i.fld.isEmpty = false ∧ i.fld.all (fun p => decide (0 < p.2)) = true ∧ i.zero.length = i.size ∧ 0 < i.size)
      | none => fail
    | none => fail
  | .makeSlice t l c => match ti t with
    | some { elem := some e, .. } => match ti e with
      | some ei => rdT l fun a => rdT c fun b => match a, b with
        | .int _ n, .int _ m => match π.rep n m ei.zero with
          | some xs => put o (.c (.t (.sl true ei.size xs))) [] (ei.bytes ≤ 256 ∧ 0 < ei.size ∧ ei.zero.length = ei.size)
          | none => fail
        | _, _ => fail
      | none => fail
    | _ => fail
  | .extract x i => rdS x fun sv => match sv with
    | .tup l => match l[i]? with
      | some x => put o x [] (x.row.isSome = true)
      | none => fail
    | _ => fail
  | .call { callee := .builtin .len, args, argTypes } => match args.toList, argTypes.toList with | [x], [t] => xstepLen π ti o t x | _, _ => fail
  | _ => fail

/-! ### Calls: the operands first -/
def xrdP (x : Operand) (s : St) (lg : List Loc) (K : SV → List Loc → Prop) : Prop :=
  match x with
  | .tmp n => K ((s.slot n).alias (rt n (s.isnew n))) (.slot n :: lg)
  | .const v => K (SV.ofV v) lg
  | .func g => K (.c (.clo g [])) lg
  | .global _ => False
def xplaceP (r : Root) (c : Nat) (s : St) (lg : List Loc) (K : T → List Loc → Prop) : Prop :=
  match r with
  | .slot n => if s.isnew n || s.dirty (rt n (s.isnew n)) c then False else match (s.slot n).cellAt c with | some (.t t) => K t (.slot n :: lg) | _ => False
  | .new n => if !s.isnew n || s.dirty (rt n (s.isnew n)) c then False else match (s.slot n).cellAt c with | some (.t t) => K t (.slot n :: lg) | _ => False
  | .obj k => if inrK (s.kind k) c then (if s.dirty (.obj k) c then False else match s.cell k c with | .t t => K t (.cell k c :: .kind k :: lg) | _ => False) else False
  | .ret => False
def xderefP (a : CA) (s : St) (lg : List Loc) (K : T → List Loc → Prop) : Prop :=
  xplaceP a.root a.c s lg fun t lg => match T.xat π t a.path with | some x => K x lg | none => False
mutual
def xpassC (x : C) (s : St) (lg : List Loc) (K : C → Bool → List Loc → Prop) : Prop :=
  match x with
  | .t y => K (.t y) true lg
  | .ref a => xderefP π a s lg fun y lg => if y.isOwn then K (.t (xview π y)) false lg else False
  | .clo g caps => xpassL caps s lg fun l cl lg => K (.clo g l) cl lg
  | .fp row c => K (.fp row c) true lg
  | _ => False
def xpassL (l : List C) (s : St) (lg : List Loc) (K : List C → Bool → List Loc → Prop) : Prop :=
  match l with
  | [] => K [] true lg
  | x :: l => xpassC x s lg fun y c1 lg => xpassL l s lg fun ys c2 lg => K (y :: ys) (c1 && c2) lg
end
def xpassArgs : List Operand → St → List Loc → (List SV → Bool → List Loc → Prop) → Prop
  | [], s, lg, K => K [] true lg
  | x :: r, s, lg, K => xrdP x s lg fun sv lg => match sv with
      | .c y => xpassC π y s lg fun z c1 lg => xpassArgs r s lg fun l c2 lg => K (.c z :: l) (c1 && c2) lg
      | .agg row => xpassL π row s lg fun zs c1 lg => xpassArgs r s lg fun l c2 lg => K (.agg zs :: l) (c1 && c2) lg
      | .tup _ => False
/-- The call is known to return `res`; nothing that is lent comes back in it. -/
def xret (R : Rel) (g : Nat) (fa : List SV) (cl : Bool) (res : SV) : Prop := match cl with
  | true => R g fa [] res []
  | false => R g fa [] res [] ∧ xnoFzSV π res = true

def xaop1 (R : Rel) (o : Oper) (s : St) (lg : List Loc) (l : List (List Loc × List Loc)) (K : Kont) : Prop :=
  match o.op with
  | .pick (.tmp c) a b => match s.slot c with
    | .c (.t (.bool t)) => match t with
      | true => (rdS a fun sv => put o sv [] (sv.row.isSome = true)).go s (.slot c :: lg) (fin s l K)
      | false => (rdS b fun sv => put o sv [] (sv.row.isSome = true)).go s (.slot c :: lg) (fin s l K)
    | _ => False
  | .call { callee := .value (.func g), args, .. } => xpassArgs π args.toList s lg fun fa cl lg => ∃ res, xret π R g fa cl res ∧ (put o res [] True).go s lg (fin s l K)
  | .call { callee := .value (.tmp n), args, .. } => match s.slot n with
    | .c (.clo g caps) => xpassArgs π args.toList s (.slot n :: lg) fun fa c1 lg => xpassL π caps s lg fun cs c2 lg => ∃ res, xret π R g (fa ++ cs.map SV.c) (c1 && c2) res ∧ (put o res [] True).go s lg (fin s l K)
    | _ => False
  | _ => (xstep π ti o).go s lg (fin s l K)
def xaop (R : Rel) (ops : List Oper) (o : Oper) (s : St) (l : List (List Loc × List Loc)) (K : Kont) : Prop :=
  match o.guard with
  | none => xaop1 π ti R o s [] l K
  | some (j, want) => match (ops[j]?).bind (·.dst) with
    | some d => match s.slot d with
      | .c (.t (.bool b)) => match b with
        | true => (match want with
          | true => xaop1 π ti R o s [.slot d] l K
          | false => (skipOp o).go s [.slot d] (fin s l K))
        | false => (match want with
          | true => (skipOp o).go s [.slot d] (fin s l K)
          | false => xaop1 π ti R o s [.slot d] l K)
      | .c (.t (.val (.tuple _))) => (skipOp o).go s [.slot d] (fin s l K)
      | _ => False
    | none => False
def xaops (R : Rel) (ops : List Oper) : List Oper → St → List (List Loc × List Loc) → Kont → Prop
  | [], s, l, K => K s l
  | o :: r, s, l, K => xaop π ti R ops o s l fun s l => xaops R ops r s l K
def xawp (R : Rel) (keep : List Nat) : Code → (AX → St → Prop) → St → Prop
  | .skip, Q, s => Q .normal s
  | .region _ ops draw, Q, s => xaops π ti R ops.toList ops.toList s [] fun s l => match draw with
    | true => indep ops.toList l = true ∧ Q .normal (s.fix keep)
    | false => Q .normal (s.fix keep)
  | .seq a b, Q, s => xawp R keep a (fun e s => match e with | .normal => xawp R keep b Q s | e => Q e s) s
  | .cond (.tmp c) x y, Q, s => match s.slot c with
    | .c (.t (.bool t)) => match t with
      | true => xawp R keep x Q s
      | false => xawp R keep y Q s
    | _ => False
  | .cond (.const (.bool t)) x y, Q, s => match t with
      | true => xawp R keep x Q s
      | false => xawp R keep y Q s
  | .block id c, Q, s => xawp R keep c (fun e s => match e with | .exit j => if j = id then Q .normal s else Q (.exit j) s | e => Q e s) s
  | .loop c, Q, s => aloop (xawp R keep c) Q s
  | .exit id, Q, s => Q (.exit id) s
  | .ret, Q, s => Q .ret s
  | _, _, _ => False
end
end Vx

namespace Vx
open Go
set_option linter.unusedVariables false
set_option linter.unusedSimpArgs false

/-! ## What runs so is a walk -/
/-- Whatever `a` does, `b` does. -/
def Le (a b : Rd Eff) : Prop := ∀ (s : St) (lg : List Loc) (K : Eff → List Loc → Prop), (∀ e lg, K e lg → e.ok) → a.go s lg K → b.go s lg K
theorem Le.refl (a : Rd Eff) : Le a a := fun _ _ _ _ h => h
theorem Le.fail (b : Rd Eff) : Le Vx.fail b := fun s lg K hK h => absurd (hK _ _ h) (fun h => h.elim)
theorem Le.slot {n : Nat} {f g : SV → Bool → (Nat → Bool) → Rd Eff} (h : ∀ x y z, Le (f x y z) (g x y z)) : Le (.slot n f) (.slot n g) := fun s lg K hK k => h _ _ _ s _ K hK k
theorem Le.cell {k c : Nat} {f g : C → Bool → Rd Eff} (h : ∀ x y, Le (f x y) (g x y)) : Le (.cell k c f) (.cell k c g) := fun s lg K hK q => h _ _ s _ K hK q
theorem Le.kind {k : Nat} {f g : Option Kind → Rd Eff} (h : ∀ x, Le (f x) (g x)) : Le (.kind k f) (.kind k g) := fun s lg K hK q => h _ s _ K hK q
theorem Le.rdS {x : Operand} {f g : SV → Rd Eff} (h : ∀ sv, Le (f sv) (g sv)) : Le (Vx.rdS x f) (Vx.rdS x g) := by
  cases x with
  | tmp n => exact Le.slot fun _ _ _ => h _
  | const v => exact h _
  | func g => exact h _
  | global g => exact Le.refl _
theorem Le.rdT {x : Operand} {f g : T → Rd Eff} (h : ∀ t, Le (f t) (g t)) : Le (Vx.rdT x f) (Vx.rdT x g) := by
  refine Le.rdS fun sv => ?_
  split
  · exact h _
  · exact Le.refl _
theorem Le.place {r : Root} {c : Nat} {f g : T → Rd Eff} (h : ∀ t, Le (f t) (g t)) : Le (Vx.place r c f) (Vx.place r c g) := by
  cases r with
  | slot n =>
    refine Le.slot fun sv nw d => ?_
    split
    · exact Le.refl _
    · split
      · exact h _
      · exact Le.refl _
  | new n =>
    refine Le.slot fun sv nw d => ?_
    split
    · exact Le.refl _
    · split
      · exact h _
      · exact Le.refl _
  | obj k =>
    refine Le.kind fun kd => ?_
    split
    · refine Le.cell fun x d => ?_
      split
      · exact Le.refl _
      · split
        · exact h _
        · exact Le.refl _
    · exact Le.refl _
  | ret => exact Le.refl _
theorem Le.takeL {row : List C} {f g : List T → List Upd → Rd Eff} (h : ∀ ts us, Le (f ts us) (g ts us)) : Le (Vx.takeL row f) (Vx.takeL row g) := by
  induction row generalizing f g with
  | nil => exact h _ _
  | cons x l ih =>
    simp only [Vx.takeL]
    have key : ∀ t us, Le (Vx.takeL l fun ts vs => f (t :: ts) (us ++ vs)) (Vx.takeL l fun ts vs => g (t :: ts) (us ++ vs)) := fun t us => ih fun ts vs => h _ _
    unfold takeC
    split
    · exact key _ _
    · refine Le.place fun t => ?_
      split
      · exact key _ _
      · exact Le.refl _
    · exact Le.refl _
theorem Le.rdRow {x : Operand} {f g : List C → Rd Eff} (h : ∀ r, Le (f r) (g r)) : Le (Vx.rdRow x f) (Vx.rdRow x g) := by
  refine Le.rdS fun sv => ?_
  split
  · split
    · exact h _
    · exact Le.refl _
  · exact h _
  · exact Le.refl _
theorem Le.takeS {x : Operand} {f g : List T → List Upd → Rd Eff} (h : ∀ ts us, Le (f ts us) (g ts us)) : Le (Vx.takeS x f) (Vx.takeS x g) := Le.rdRow fun _ => Le.takeL h
theorem Le.put {o : Oper} {x : SV} {us : List Upd} {ok ok' : Prop} (h : ok → ok') : Le (put o x us ok) (put o x us ok') := by
  have hf : ∀ us, Le (finish ok us) (finish ok' us) := by
    intro us
    unfold finish
    split
    · intro s lg K hK k
      have : ok := hK _ _ k
      have e : ok = ok' := propext ⟨h, fun _ => this⟩
      rw [← e]; exact k
    · exact Le.refl _
  unfold Vx.put
  split
  · refine Le.slot fun _ nw _ => ?_
    split
    · exact Le.refl _
    · exact hf _
  · exact hf _

section
variable {P : Program} {ti : TypeId → Option TI}
abbrev TiOK (P : Program) (ti : TypeId → Option TI) : Prop := ∀ t i, ti t = some i → tinfo P t = some i
theorem isStrX_eq (h : TiOK P ti) {t : TypeId} {i : TI} (hi : ti t = some i) : isStrX ti t = isStrT P t := by
  unfold isStrX isStrT; rw [hi, h t i hi]; obtain ⟨kd, _, _, _, _, _, _⟩ := i; cases kd <;> rfl
theorem isSlX_eq (h : TiOK P ti) {t : TypeId} {i : TI} (hi : ti t = some i) : isSlX ti t = isSlT P t := by
  unfold isSlX isSlT; rw [hi, h t i hi]; obtain ⟨_, _, _, _, _, _, el⟩ := i; cases el <;> rfl
theorem isBoolX_le (h : TiOK P ti) {t : TypeId} (hi : isBoolX ti t = true) : isBoolT P t = true := by
  unfold isBoolX at hi
  split at hi
  · rename_i e
    unfold isBoolT; rw [h t _ e]
  · cases hi

theorem xbin_le (h : TiOK P ti) {xt : TypeId} {op : BinOp} {x y t : T} (hx : xbin Pm.real ti xt op x y = some t) : binT P xt op x y = some t := by
  unfold xbin at hx
  unfold binT
  split at hx
  all_goals first
    | exact hx
    | (cases hx; done)
    | (split at hx
       · rename_i hb
         simp only [isBoolX_le h hb, if_true]
         exact hx
       · cases hx)
theorem xat_eq (t : T) : ∀ p : List Hop, T.xat Pm.real t p = t.at p
  | [] => rfl
  | h :: p => by
    simp only [T.xat, T.at, xat_eq t p]
    cases hx : t.at p with
    | none => rfl
    | some x =>
      simp only [Option.bind_some]
      cases x with
      | sl o sz xs =>
        cases o with
        | true =>
          simp only [T.sub]
          split
          · show (match xs[h.i]? with | some r => r[h.c]? | none => none) = _
            cases xs[h.i]? <;> rfl
          · rfl
        | false => rfl
      | _ => rfl
theorem xput_eq (t : T) : ∀ (p : List Hop) (u : T), T.xput Pm.real t p u = t.put p u
  | [], u => rfl
  | h :: p, u => by
    simp only [T.xput, T.put, xat_eq t p]
    cases hx : t.at p with
    | none => rfl
    | some x =>
      cases x with
      | sl o sz xs =>
        cases o with
        | true =>
          simp only [T.setSub]
          show (match xs[h.i]? with | some r => T.xput Pm.real t p (.sl true sz (xs.set h.i (r.set h.c u))) | none => T.xput Pm.real t p (.sl true sz xs)) = _
          cases hr : xs[h.i]? with
          | none =>
            have : xs.length ≤ h.i := by
              rcases Nat.lt_or_ge h.i xs.length with k | k
              · rw [List.getElem?_eq_getElem k] at hr; cases hr
              · exact k
            simp only [xput_eq t p, List.set_eq_of_length_le this]
          | some r => simp only [xput_eq t p, List.getD, hr, Option.getD_some]
        | false => simp only [T.setSub, xput_eq t p]
      | _ => simp only [T.setSub, xput_eq t p]
theorem atCells_eq {t : T} {p : List Hop} {sz : Nat} {xs : List (List T)} {r : List T} : ∀ (n : Nat) (h : Hop), t.at p = some (.sl true sz xs) → h.sz = sz → xs[h.i]? = some r → h.c + n ≤ r.length →
    atCells t h p n = some ((r.drop h.c).take n)
  | 0, h, _, _, _, _ => by simp [atCells]
  | n + 1, h, h1, h2, h3, h4 => by
    have hc : h.c < r.length := by omega
    subst h2
    simp only [atCells, T.at, h1, Option.bind_some, T.sub, if_true, h3, List.getElem?_eq_getElem hc]
    rw [atCells_eq n { h with c := h.c + 1 } h1 rfl h3 (by simp only; omega)]
    simp only [Option.map_some]
    rw [List.drop_eq_getElem_cons hc, List.take_succ_cons]
theorem xcells_le {t : T} {h : Hop} {p : List Hop} {n : Nat} {l : List T} (hx : T.xcells Pm.real t h p n = some l) : atCells t h p n = some l := by
  cases n with
  | zero => simpa [T.xcells, atCells] using hx
  | succ n =>
    simp only [T.xcells, xat_eq] at hx
    split at hx
    · rename_i sz xs hat
      split at hx
      · rename_i hsz
        have hx : (match xs[h.i]? with | some r => if h.c + (n + 1) ≤ r.length then some ((r.drop h.c).take (n + 1)) else none | none => none) = some l := hx
        split at hx
        · rename_i r hr
          split at hx
          · rename_i hl
            rw [atCells_eq (n + 1) h hat hsz hr hl]
            exact hx
          · cases hx
        · cases hx
      · cases hx
    · cases hx
theorem xputs_eq {t : T} {h : Hop} {p : List Hop} {ts l : List T} (hx : T.xcells Pm.real t h p ts.length = some l) : T.xputs Pm.real t h p ts = putCells t h p ts := by
  cases ts with
  | nil => rfl
  | cons x ts =>
    simp only [T.xcells, xat_eq, List.length_cons] at hx
    split at hx
    · rename_i sz xs hat
      split at hx
      · rename_i hsz
        subst hsz
        have hx : (match xs[h.i]? with | some r => if h.c + (ts.length + 1) ≤ r.length then some ((r.drop h.c).take (ts.length + 1)) else none | none => none) = some l := hx
        split at hx
        · rename_i r hr
          split at hx
          · rename_i hl
            rw [putCells_eq (x :: ts) t _ h hat ⟨xs, r, rfl, hr, by simpa using hl⟩, setCells_eq (x :: ts) h xs r hr (by simpa using hl)]
            simp only [T.xputs, xat_eq, hat]
            show (match xs[h.i]? with | some r => T.xput Pm.real t p (.sl true h.sz (xs.set h.i (r.take h.c ++ (x :: ts) ++ r.drop (h.c + (x :: ts).length)))) | none => t) = _
            rw [hr]
            simp only [xput_eq]
          · cases hx
        · cases hx
      · cases hx
    · cases hx
theorem xderef_le {a : CA} {f g : T → T → Rd Eff} (h : ∀ t x, Le (f t x) (g t x)) : Le (xderef Pm.real a f) (deref a g) := by
  refine Le.place fun t => ?_
  rw [xat_eq]
  cases t.at a.path with
  | none => exact Le.refl _
  | some x => exact h _ _
theorem xlen_le {b : Bool} {t : T} {n : Int} (h : xlen Pm.real b t = some n) : ∃ m : Nat, lenT b t = some m ∧ (m : Int) = n := by
  cases t with
  | nil => cases b <;> simp [xlen] at h; exact ⟨0, rfl, by omega⟩
  | sl o sz xs =>
    cases b with
    | true => simp [xlen] at h
    | false =>
      have h : some ((xs.length : Int)) = some n := h
      cases h
      exact ⟨_, rfl, rfl⟩
  | str s =>
    cases b with
    | false => simp [xlen] at h
    | true =>
      have h : some ((s.size : Int)) = some n := h
      cases h
      exact ⟨_, rfl, rfl⟩
  | _ => simp [xlen] at h

theorem xview_eq (t : T) : xview Pm.real t = t.view := by
  cases t with
  | sl o sz xs => rfl
  | _ => rfl
theorem xnoFz_eq (t : T) : xnoFz Pm.real t = t.noFz := by
  cases t with
  | sl o sz xs => rfl
  | _ => rfl
theorem xnoFzC_eq : xnoFzC Pm.real = C.noFz := by
  funext x
  cases x with
  | t x => exact xnoFz_eq x
  | _ => rfl
theorem xnoFzSV_eq (sv : SV) : xnoFzSV Pm.real sv = sv.noFz := by
  cases sv with
  | c x => simp only [xnoFzSV, SV.noFz, xnoFzC_eq]
  | agg row => simp only [xnoFzSV, SV.noFz, xnoFzC_eq]
  | tup l =>
    simp only [xnoFzSV, SV.noFz, xnoFzC_eq]
    congr 1

theorem xrdP_le {x : Operand} {s : St} {lg : List Loc} {K : SV → List Loc → Prop} {f : SV → Rd Eff} {K' : Eff → List Loc → Prop} (hx : xrdP x s lg K) (h : ∀ sv lg, K sv lg → (f sv).go s lg K') : (rdS x f).go s lg K' := by
  cases x with
  | tmp n => exact h _ _ hx
  | const v => exact h _ _ hx
  | func g => exact h _ _ hx
  | global g => exact hx.elim
theorem xplaceP_le {r : Root} {c : Nat} {s : St} {lg : List Loc} {K : T → List Loc → Prop} {f : T → Rd Eff} {K' : Eff → List Loc → Prop} (hx : xplaceP r c s lg K) (h : ∀ t lg, K t lg → (f t).go s lg K') : (place r c f).go s lg K' := by
  cases r with
  | slot n =>
    simp only [xplaceP] at hx
    simp only [place, Rd.go]
    split at hx
    · exact hx.elim
    · rename_i e
      rw [if_neg e]
      split at hx
      · rename_i e; simp only [e]; exact h _ _ hx
      · exact hx.elim
  | new n =>
    simp only [xplaceP] at hx
    simp only [place, Rd.go]
    split at hx
    · exact hx.elim
    · rename_i e
      rw [if_neg e]
      split at hx
      · rename_i e; simp only [e]; exact h _ _ hx
      · exact hx.elim
  | obj k =>
    simp only [xplaceP] at hx
    simp only [place, Rd.go]
    split at hx
    · rename_i e
      rw [if_pos e]
      simp only [Rd.go]
      split at hx
      · exact hx.elim
      · rename_i e
        rw [if_neg e]
        split at hx
        · rename_i e; simp only [e]; exact h _ _ hx
        · exact hx.elim
    · exact hx.elim
  | ret => exact hx.elim
theorem xderefP_le {a : CA} {s : St} {lg : List Loc} {K : T → List Loc → Prop} {f : T → T → Rd Eff} {K' : Eff → List Loc → Prop} (hx : xderefP Pm.real a s lg K) (h : ∀ t x lg, K x lg → (f t x).go s lg K') : (deref a f).go s lg K' := by
  refine xplaceP_le hx fun t lg hq => ?_
  rw [xat_eq] at hq
  split at hq
  · rename_i e; simp only [e]; exact h _ _ _ hq
  · exact hq.elim
mutual
theorem xpassC_le : ∀ (x : C) {s : St} {lg : List Loc} {K : C → Bool → List Loc → Prop} {f : C → Prop → Bool → Rd Eff} {K' : Eff → List Loc → Prop}, xpassC Pm.real x s lg K → (∀ z p cl lg, p → K z cl lg → (f z p cl).go s lg K') → (passC [] x f).go s lg K'
  | .t y, s, lg, K, f, K', hx, h => h _ _ _ _ trivial hx
  | .ref a, s, lg, K, f, K', hx, h => by
    simp only [xpassC] at hx
    simp only [passC, List.findIdx?_nil, List.any_nil, Bool.false_eq_true, if_false]
    refine xderefP_le hx fun t x lg hq => ?_
    split at hq
    · rename_i e
      rw [if_pos e]
      rw [xview_eq] at hq
      exact h _ _ _ _ trivial hq
    · exact hq.elim
  | .ptr a, s, lg, K, f, K', hx, h => by simp only [xpassC] at hx
  | .fp row c, s, lg, K, f, K', hx, h => by
    simp only [xpassC] at hx
    simp only [passC]
    exact h _ _ _ _ trivial hx
  | .clo k caps, s, lg, K, f, K', hx, h => by
    simp only [xpassC] at hx
    simp only [passC]
    exact xpassL_le caps hx fun zs p cl lg hp hq => h _ _ _ _ hp hq
  | .mp k, s, lg, K, f, K', hx, h => by simp only [xpassC] at hx
theorem xpassL_le : ∀ (l : List C) {s : St} {lg : List Loc} {K : List C → Bool → List Loc → Prop} {f : List C → Prop → Bool → Rd Eff} {K' : Eff → List Loc → Prop}, xpassL Pm.real l s lg K → (∀ z p cl lg, p → K z cl lg → (f z p cl).go s lg K') → (passL [] l f).go s lg K'
  | [], s, lg, K, f, K', hx, h => by
    simp only [xpassL] at hx
    simp only [passL]
    exact h _ _ _ _ trivial hx
  | x :: l, s, lg, K, f, K', hx, h => by
    simp only [xpassL] at hx
    simp only [passL]
    exact xpassC_le x hx fun z p cl lg hp hq => xpassL_le l hq fun zs p' cl' lg hp' hq' => h _ _ _ _ ⟨hp, hp'⟩ hq'
end
theorem xpassArgs_le : ∀ (l : List Operand) {s : St} {lg : List Loc} {K : List SV → Bool → List Loc → Prop} {f : List SV → Prop → Bool → Rd Eff} {K' : Eff → List Loc → Prop}, xpassArgs Pm.real l s lg K → (∀ z p cl lg, p → K z cl lg → (f z p cl).go s lg K') → (passArgs [] l f).go s lg K'
  | [], s, lg, K, f, K', hx, h => h _ _ _ _ trivial hx
  | x :: l, s, lg, K, f, K', hx, h => by
    simp only [xpassArgs] at hx
    simp only [passArgs]
    refine xrdP_le hx fun sv lg hq => ?_
    cases sv with
    | c y => exact xpassC_le y hq fun z p cl lg hp hq => xpassArgs_le l hq fun zs p' cl' lg hp' hq' => h _ _ _ _ ⟨hp, hp'⟩ hq'
    | agg row => exact xpassL_le row hq fun z p cl lg hp hq => xpassArgs_le l hq fun zs p' cl' lg hp' hq' => h _ _ _ _ ⟨hp, hp'⟩ hq'
    | tup l => exact hq.elim
theorem Rd.go_ok {f : Rd Eff} {s : St} {lg : List Loc} {K : Eff → List Loc → Prop} (h : f.go s lg K) : ∃ e lg', K e lg' := by
  rw [Rd.go_iff] at h; exact ⟨_, _, h⟩
theorem xstepLoad_le (h : TiOK P ti) {o : Oper} {t : TypeId} {p : Operand} : Le (xstepLoad Pm.real ti o t p) (stepLoad P o t p) := by
  unfold xstepLoad stepLoad
  cases hi : ti t with
  | none => exact Le.fail _
  | some i =>
    rw [h t i hi]
    refine Le.rdS fun sv => ?_
    split
    · exact Le.refl _
    · exact Le.refl _
    · simp only
      refine Le.place fun t => ?_
      split
      · split
        · rename_i hl
          rw [xcells_le hl]
          exact Le.refl _
        · exact Le.fail _
      · rw [xat_eq]; exact Le.refl _
    · exact Le.fail _
theorem xstepStore_le (h : TiOK P ti) {o : Oper} {t : TypeId} {p v : Operand} : Le (xstepStore Pm.real ti o t p v) (stepStore P o t p v) := by
  unfold xstepStore stepStore
  cases hi : ti t with
  | none => exact Le.fail _
  | some i =>
    rw [h t i hi]
    refine Le.rdS fun sv => ?_
    split
    · exact Le.refl _
    · simp only
      refine Le.takeS fun ts us => Le.place fun t => ?_
      split
      · rename_i hl
        rw [xcells_le hl, xputs_eq hl]
        exact Le.refl _
      · exact Le.fail _
    · exact Le.fail _
theorem xstepLen_le (h : TiOK P ti) {o : Oper} {t : TypeId} {x : Operand} : Le (xstepLen Pm.real ti o t x) (stepLen P o t x) := by
  unfold xstepLen stepLen
  cases hi : ti t with
  | none =>
    have e1 : isStrX ti t = false := by unfold isStrX; rw [hi]
    have e2 : isSlX ti t = false := by unfold isSlX; rw [hi]
    rw [e1, e2]
    exact Le.fail _
  | some i =>
    rw [isStrX_eq h hi, isSlX_eq h hi]
    split
    · refine Le.rdS fun sv => ?_
      split
      · split
        · rename_i n hn
          obtain ⟨m, h1, h2⟩ := xlen_le hn
          simp only
          rw [h1, ← h2]
          exact Le.refl _
        · exact Le.fail _
      · exact xderef_le fun t x => Le.refl _
      · exact Le.fail _
    · exact Le.refl _
theorem xstepIndex_le (h : TiOK P ti) {o : Oper} {t : TypeId} {x i : Operand} : Le (xstepIndex Pm.real ti o t x i) (stepIndex P o t x i) := by
  unfold xstepIndex stepIndex
  split
  · rename_i e hi
    rw [h t _ hi]
    simp only
    split
    · rename_i ei hei
      rw [h e _ hei]
      refine Le.rdS fun sv => Le.rdT fun t => ?_
      cases t with
      | int k n =>
        cases sv with
        | c y =>
          cases y with
          | t z =>
            cases z with
            | sl ow sz xs =>
              cases ow with
              | true => exact Le.fail _
              | false =>
                simp only
                split
                · show Le (match (if 0 ≤ n then xs[n.toNat]? else none) with | some row => put o (.c (.fp row 0)) [] True | none => fail) _
                  split
                  · rename_i row hr
                    split at hr
                    · rename_i h0
                      rw [hr]
                      exact Le.put fun _ => h0
                    · cases hr
                  · exact Le.fail _
                · exact Le.fail _
            | _ => exact Le.fail _
          | ref a =>
            refine xderef_le fun t x => ?_
            split
            · rename_i sz xs
              simp only
              split
              · show Le (match (if 0 ≤ n then xs[n.toNat]? else none) with | some row => put o (.c (.ptr ⟨a.root, a.c, ⟨n.toNat, sz, 0⟩ :: a.path⟩)) [] True | none => fail) _
                split
                · rename_i row hr
                  split at hr
                  · rename_i h0
                    rw [hr]
                    exact Le.put fun _ => h0
                  · cases hr
                · exact Le.fail _
              · exact Le.fail _
            · exact Le.fail _
          | _ => exact Le.fail _
        | _ => exact Le.fail _
      | _ => exact Le.fail _
    · exact Le.fail _
  · exact Le.fail _
theorem xstep_le (h : TiOK P ti) (o : Oper) : Le (xstep Pm.real ti o) (astep P o) := by
  unfold xstep astep
  split
  all_goals first
    | exact Le.fail _
    | (rename_i ho; simp only [ho])
  · exact Le.refl _
  · exact Le.refl _
  · exact Le.refl _
  · refine Le.rdT fun a => Le.rdT fun b => ?_
    split
    · rename_i hb
      rw [xbin_le h hb]
      exact Le.refl _
    · exact Le.fail _
  · exact Le.refl _
  · exact Le.refl _
  · rename_i s x f
    cases hi : ti s with
    | none => exact Le.fail _
    | some i => rw [h s i hi]; exact Le.refl _
  · exact xstepIndex_le h
  · exact xstepLoad_le h
  · exact xstepStore_le h
  · rename_i t
    split
    · rename_i d i hd hi
      rw [h t i hi, hd]
      exact Le.refl _
    · exact Le.fail _
  · rename_i t x
    split
    · rename_i d i hd hi
      rw [h t i hi, hd]
      exact Le.refl _
    · exact Le.fail _
  · rename_i t parts
    split
    · rename_i i hi
      rw [h t i hi]
      exact Le.refl _
    · exact Le.fail _
  · rename_i t l c
    split
    · rename_i e hi
      rw [h t _ hi]
      simp only
      split
      · rename_i ei hei
        rw [h e _ hei]
        refine Le.rdT fun a => Le.rdT fun b => ?_
        split
        · rename_i n _ m
          simp only
          show Le (match (if 0 ≤ n ∧ n = m ∧ n ≤ (2 ^ 38 : Nat) then some (List.replicate n.toNat ei.zero) else none) with | some xs => put o (.c (.t (.sl true ei.size xs))) [] (ei.bytes ≤ 256 ∧ 0 < ei.size ∧ ei.zero.length = ei.size) | none => fail) _
          split
          · rename_i xs hx
            split at hx
            · rename_i hc
              cases hx
              exact Le.put fun h4 => ⟨hc.1, hc.2.1, hc.2.2, h4⟩
            · cases hx
          · exact Le.fail _
        · exact Le.fail _
      · exact Le.fail _
    · exact Le.fail _
  · exact Le.refl _
  · split
    · rename_i h1 h2
      rw [h1, h2]
      exact xstepLen_le h
    · exact Le.fail _

theorem fin_ok {s : St} {l : List (List Loc × List Loc)} {K : Kont} : ∀ (e : Eff) (lg : List Loc), fin s l K e lg → e.ok := fun _ _ h => h.1
theorem go_mono {α : Type} {s : St} {f : Rd α} {lg : List Loc} {K K' : α → List Loc → Prop} (h : f.go s lg K) (hK : ∀ e lg, K e lg → K' e lg) : f.go s lg K' := by
  rw [Rd.go_iff] at h ⊢
  exact hK _ _ h
theorem fin_mono {s : St} {l : List (List Loc × List Loc)} {K K' : Kont} (hK : ∀ s l, K s l → K' s l) : ∀ e lg, fin s l K e lg → fin s l K' e lg := fun _ _ h => ⟨h.1, hK _ _ h.2⟩
/-- What is read is one thing. -/
def Det {α : Type} (X : (α → List Loc → Prop) → Prop) : Prop := ∀ K, X K → ∃ a lg, K a lg ∧ ∀ K2 : α → List Loc → Prop, K2 a lg → X K2
theorem Det.at {α : Type} (a : α) (lg : List Loc) : Det fun K : α → List Loc → Prop => K a lg := fun K h => ⟨a, lg, h, fun K2 h => h⟩
theorem Det.no {α : Type} : Det fun _ : α → List Loc → Prop => False := fun K h => h.elim
theorem Det.bind {α β : Type} {X : (α → List Loc → Prop) → Prop} {Y : α → List Loc → (β → List Loc → Prop) → Prop} (hX : Det X) (hY : ∀ a lg, Det (Y a lg)) : Det fun K => X fun a lg => Y a lg K := by
  intro K h
  obtain ⟨a, lg, h1, h2⟩ := hX _ h
  obtain ⟨b, lg', h3, h4⟩ := hY a lg _ h1
  exact ⟨b, lg', h3, fun K2 hk => h2 _ (h4 _ hk)⟩
theorem xrdP_det (x : Operand) (s : St) (lg : List Loc) : Det (xrdP x s lg) := by
  cases x with
  | tmp n => exact Det.at _ _
  | const v => exact Det.at _ _
  | func g => exact Det.at _ _
  | global g => exact Det.no
theorem xplaceP_det (r : Root) (c : Nat) (s : St) (lg : List Loc) : Det (xplaceP r c s lg) := by
  cases r with
  | slot n =>
    intro K h
    simp only [xplaceP] at h ⊢
    split at h
    · exact h.elim
    · rename_i e
      simp only [if_neg e]
      split at h
      · exact ⟨_, _, h, fun K2 hk => by simp_all⟩
      · exact h.elim
  | new n =>
    intro K h
    simp only [xplaceP] at h ⊢
    split at h
    · exact h.elim
    · rename_i e
      simp only [if_neg e]
      split at h
      · exact ⟨_, _, h, fun K2 hk => by simp_all⟩
      · exact h.elim
  | obj k =>
    intro K h
    simp only [xplaceP] at h ⊢
    split at h
    · rename_i e
      simp only [if_pos e]
      split at h
      · exact h.elim
      · rename_i e
        simp only [if_neg e]
        split at h
        · exact ⟨_, _, h, fun K2 hk => by simp_all⟩
        · exact h.elim
    · exact h.elim
  | ret => exact Det.no
theorem xderefP_det (π : Pm) (a : CA) (s : St) (lg : List Loc) : Det (xderefP π a s lg) := by
  unfold xderefP
  refine Det.bind (Y := fun t lg (K : T → List Loc → Prop) => match T.xat π t a.path with | some x => K x lg | none => False) (xplaceP_det _ _ _ _) fun t lg => ?_
  cases T.xat π t a.path with
  | none => exact Det.no
  | some x => exact Det.at _ _
mutual
theorem xpassC_det (π : Pm) : ∀ (x : C) (s : St) (lg : List Loc), Det fun K : C × Bool → List Loc → Prop => xpassC π x s lg fun a b lg => K (a, b) lg
  | .t y, s, lg => by simp only [xpassC]; exact Det.at _ _
  | .ref a, s, lg => by
    simp only [xpassC]
    refine Det.bind (Y := fun y lg (K : C × Bool → List Loc → Prop) => if y.isOwn then K (.t (xview π y), false) lg else False) (xderefP_det π a s lg) fun y lg => ?_
    intro K h
    split at h
    · rename_i e
      exact ⟨_, _, h, fun K2 h => by show ite _ _ _; rw [if_pos e]; exact h⟩
    · exact h.elim
  | .ptr a, s, lg => by simp only [xpassC]; exact Det.no
  | .fp row c, s, lg => by simp only [xpassC]; exact Det.at _ _
  | .clo k caps, s, lg => by
    simp only [xpassC]
    exact Det.bind (Y := fun p lg (K : C × Bool → List Loc → Prop) => K (.clo k p.1, p.2) lg) (xpassL_det π caps s lg) fun p lg => Det.at _ _
  | .mp k, s, lg => by simp only [xpassC]; exact Det.no
theorem xpassL_det (π : Pm) : ∀ (l : List C) (s : St) (lg : List Loc), Det fun K : List C × Bool → List Loc → Prop => xpassL π l s lg fun a b lg => K (a, b) lg
  | [], s, lg => by simp only [xpassL]; exact Det.at _ _
  | x :: l, s, lg => by
    simp only [xpassL]
    exact Det.bind (Y := fun p lg (K : List C × Bool → List Loc → Prop) => xpassL π l s lg fun ys c2 lg => K (p.1 :: ys, p.2 && c2) lg) (xpassC_det π x s lg) fun p lg =>
      Det.bind (Y := fun q lg (K : List C × Bool → List Loc → Prop) => K (p.1 :: q.1, p.2 && q.2) lg) (xpassL_det π l s lg) fun q lg => Det.at _ _
end
theorem xpassArgs_det (π : Pm) : ∀ (l : List Operand) (s : St) (lg : List Loc), Det fun K : List SV × Bool → List Loc → Prop => xpassArgs π l s lg fun a b lg => K (a, b) lg
  | [], s, lg => by simp only [xpassArgs]; exact Det.at _ _
  | x :: l, s, lg => by
    intro K h
    simp only [xpassArgs] at h ⊢
    obtain ⟨sv, lg1, h1, h2⟩ := xrdP_det x s lg _ h
    cases sv with
    | c y =>
      obtain ⟨p, lg2, h3, h4⟩ := xpassC_det π y s lg1 (fun p lg => xpassArgs π l s lg fun ys c2 lg => K (.c p.1 :: ys, p.2 && c2) lg) h1
      obtain ⟨q, lg3, h5, h6⟩ := xpassArgs_det π l s lg2 (fun q lg => K (.c p.1 :: q.1, p.2 && q.2) lg) h3
      exact ⟨_, _, h5, fun K2 hk => h2 _ (h4 (fun p lg => xpassArgs π l s lg fun ys c2 lg => K2 (.c p.1 :: ys, p.2 && c2) lg) (h6 (fun q lg => K2 (.c p.1 :: q.1, p.2 && q.2) lg) hk))⟩
    | agg row =>
      obtain ⟨p, lg2, h3, h4⟩ := xpassL_det π row s lg1 (fun p lg => xpassArgs π l s lg fun ys c2 lg => K (.agg p.1 :: ys, p.2 && c2) lg) h1
      obtain ⟨q, lg3, h5, h6⟩ := xpassArgs_det π l s lg2 (fun q lg => K (.agg p.1 :: q.1, p.2 && q.2) lg) h3
      exact ⟨_, _, h5, fun K2 hk => h2 _ (h4 (fun p lg => xpassArgs π l s lg fun ys c2 lg => K2 (.agg p.1 :: ys, p.2 && c2) lg) (h6 (fun q lg => K2 (.agg p.1 :: q.1, p.2 && q.2) lg) hk))⟩
    | tup l => exact h1.elim
theorem xcall_le {R : Rel} {o : Oper} {g : Nat} {args : List Operand} {s : St} {lg : List Loc} {l : List (List Loc × List Loc)} {K K' : Kont} (hK : ∀ s l, K s l → K' s l)
    (hx : xpassArgs Pm.real args s lg fun fa cl lg => ∃ res, xret Pm.real R g fa cl res ∧ (put o res [] True).go s lg (fin s l K)) : ∃ an, (stepCall R o g args an).go s lg (fin s l K') := by
  obtain ⟨⟨fa, cl⟩, lg', ⟨res, h1, h2⟩, h3⟩ := xpassArgs_det Pm.real args s lg (fun p lg => ∃ res, xret Pm.real R g p.1 p.2 res ∧ (put o res [] True).go s lg (fin s l K)) hx
  refine ⟨⟨[], res, []⟩, ?_⟩
  refine xpassArgs_le args (h3 (fun p lg => p = (fa, cl) ∧ lg = lg') ⟨rfl, rfl⟩) fun z p cl' lg'' hp hq => ?_
  obtain ⟨hq, rfl⟩ := hq
  cases hq
  refine Le.put (fun _ => ⟨?_, hp, ?_⟩) s _ _ fin_ok (go_mono h2 (fin_mono hK))
  · unfold xret at h1; split at h1
    · exact h1
    · exact h1.1
  · unfold xret at h1; split at h1
    · exact .inl ‹_›
    · exact .inr (by rw [← xnoFzSV_eq]; exact h1.2)
theorem xcallv_le {R : Rel} {o : Oper} {n g : Nat} {caps : List C} {args : List Operand} {s : St} {lg : List Loc} {l : List (List Loc × List Loc)} {K K' : Kont} (hK : ∀ s l, K s l → K' s l) (hsl : s.slot n = .c (.clo g caps))
    (hx : xpassArgs Pm.real args s (.slot n :: lg) fun fa c1 lg => xpassL Pm.real caps s lg fun cs c2 lg => ∃ res, xret Pm.real R g (fa ++ cs.map SV.c) (c1 && c2) res ∧ (put o res [] True).go s lg (fin s l K)) : ∃ an, (stepCallV R o n args an).go s lg (fin s l K') := by
  obtain ⟨⟨fa, c1⟩, lg1, h1, h2⟩ := xpassArgs_det Pm.real args s (.slot n :: lg) (fun p lg => xpassL Pm.real caps s lg fun cs c2 lg => ∃ res, xret Pm.real R g (p.1 ++ cs.map SV.c) (p.2 && c2) res ∧ (put o res [] True).go s lg (fin s l K)) hx
  obtain ⟨⟨cs, c2⟩, lg2, ⟨res, h3, h4⟩, h5⟩ := xpassL_det Pm.real caps s lg1 (fun q lg => ∃ res, xret Pm.real R g (fa ++ q.1.map SV.c) (c1 && q.2) res ∧ (put o res [] True).go s lg (fin s l K)) h1
  refine ⟨⟨[], res, []⟩, ?_⟩
  simp only [stepCallV, Rd.go, hsl]
  refine xpassArgs_le args (h2 (fun p lg => p = (fa, c1) ∧ lg = lg1) ⟨rfl, rfl⟩) fun z p cl' lg'' hp hq => ?_
  obtain ⟨hq, rfl⟩ := hq
  cases hq
  refine xpassL_le caps (h5 (fun p lg => p = (cs, c2) ∧ lg = lg2) ⟨rfl, rfl⟩) fun z p' cl'' lg''' hp' hq => ?_
  obtain ⟨hq, rfl⟩ := hq
  cases hq
  refine Le.put (fun _ => ⟨?_, ⟨hp, hp'⟩, ?_⟩) s _ _ fin_ok (go_mono h4 (fin_mono hK))
  · unfold xret at h3; split at h3
    · exact h3
    · exact h3.1
  · unfold xret at h3; split at h3
    · exact .inl ‹_›
    · exact .inr (by rw [← xnoFzSV_eq]; exact h3.2)
theorem xaop1_le (h : TiOK P ti) {R : Rel} {o : Oper} {s : St} {lg : List Loc} {l : List (List Loc × List Loc)} {K K' : Kont} (hK : ∀ s l, K s l → K' s l) (hx : xaop1 Pm.real ti R o s lg l K) : aop1 P R o s lg l K' := by
  unfold xaop1 at hx
  unfold aop1
  split at hx
  · rename_i ho
    simp only [ho]
    split at hx
    · rename_i hs
      simp only [hs]
      split at hx
      · exact ⟨fun _ => go_mono hx (fin_mono hK), fun h => by cases h⟩
      · exact ⟨fun h => (by cases h), fun _ => go_mono hx (fin_mono hK)⟩
    · exact hx.elim
  · rename_i ho
    simp only [ho]
    exact xcall_le hK hx
  · rename_i ho
    simp only [ho]
    split at hx
    · rename_i hs
      exact xcallv_le hK hs hx
    · exact hx.elim
  · rename_i h1 h2 h3
    split
    · exact absurd ‹_› (h1 _ _ _)
    · exact absurd ‹_› (h2 _ _ _)
    · exact absurd ‹_› (h3 _ _ _)
    · exact xstep_le h o s lg _ fin_ok (go_mono hx (fin_mono hK))
theorem xaop_le (h : TiOK P ti) {R : Rel} {ops : List Oper} {o : Oper} {s : St} {l : List (List Loc × List Loc)} {K K' : Kont} (hK : ∀ s l, K s l → K' s l) (hx : xaop Pm.real ti R ops o s l K) : aop P R ops o s l K' := by
  unfold xaop at hx
  unfold aop
  cases hg : o.guard with
  | none => rw [hg] at hx; exact xaop1_le h hK hx
  | some p =>
    obtain ⟨j, want⟩ := p
    rw [hg] at hx
    simp only at hx ⊢
    cases hd : (ops[j]?).bind (·.dst) with
    | none => rw [hd] at hx; exact hx.elim
    | some d =>
      rw [hd] at hx
      simp only at hx ⊢
      split at hx
      · rename_i b hs
        simp only [hs]
        cases b <;> cases want
        · exact ⟨fun _ => xaop1_le h hK hx, fun h => by cases h⟩
        · exact ⟨fun h => (by cases h), fun _ => go_mono hx (fin_mono hK)⟩
        · exact ⟨fun h => (by cases h), fun _ => go_mono hx (fin_mono hK)⟩
        · exact ⟨fun _ => xaop1_le h hK hx, fun h => by cases h⟩
      · rename_i hs
        simp only [hs]
        exact go_mono hx (fin_mono hK)
      · exact hx.elim
theorem xaops_le (h : TiOK P ti) {R : Rel} {ops : List Oper} : ∀ {r : List Oper} {s : St} {l : List (List Loc × List Loc)} {K K' : Kont}, (∀ s l, K s l → K' s l) → xaops Pm.real ti R ops r s l K → aops P R ops r s l K'
  | [], s, l, K, K', hK, hx => hK _ _ hx
  | o :: r, s, l, K, K', hK, hx => xaop_le h (fun s l hx => xaops_le h hK hx) hx
theorem aloop_mono {b b' : (AX → St → Prop) → St → Prop} (hb : ∀ Q Q' s, (∀ e s, Q e s → Q' e s) → b Q s → b' Q' s) {Q Q' : AX → St → Prop} {s : St} (hQ : ∀ e s, Q e s → Q' e s) (hx : aloop b Q s) : aloop b' Q' s := by
  obtain ⟨kl, ol, I, h1, h2⟩ := hx
  refine ⟨kl, ol, I, h1, fun n s hI => hb _ _ s (fun e s2 h => ?_) (h2 n s hI)⟩
  cases e with
  | normal => exact h
  | exit id => exact hQ _ _ h
  | ret => exact hQ _ _ h
theorem xawp_le (h : TiOK P ti) {R : Rel} {keep : List Nat} : ∀ (c : Code) (Q Q' : AX → St → Prop) (s : St), (∀ e s, Q e s → Q' e s) → xawp Pm.real ti R keep c Q s → awp P R keep c Q' s := by
  intro c
  induction c with
  | skip => intro Q Q' s hQ hx; exact hQ _ _ hx
  | region id ops draw =>
    intro Q Q' s hQ hx
    simp only [xawp] at hx
    simp only [awp]
    refine xaops_le h (fun s l hx => ?_) hx
    cases draw with
    | true => exact ⟨fun _ => hx.1, hQ _ _ hx.2⟩
    | false => exact ⟨fun h => (by cases h), hQ _ _ hx⟩
  | seq a b iha ihb =>
    intro Q Q' s hQ hx
    simp only [xawp] at hx
    simp only [awp]
    refine iha _ _ s (fun e s hx => ?_) hx
    cases e with
    | normal => exact ihb _ _ s hQ hx
    | exit id => exact hQ _ _ hx
    | ret => exact hQ _ _ hx
  | cond cnd x y ihx ihy =>
    intro Q Q' s hQ hx
    cases cnd with
    | tmp n =>
      simp only [xawp] at hx
      simp only [awp]
      split at hx
      · rename_i hs
        simp only [hs]
        split at hx
        · exact ⟨fun _ => ihx _ _ s hQ hx, fun h => by cases h⟩
        · exact ⟨fun h => (by cases h), fun _ => ihy _ _ s hQ hx⟩
      · exact hx.elim
    | const v =>
      cases v with
      | bool t =>
        simp only [xawp] at hx
        simp only [awp]
        split at hx
        · exact ⟨fun _ => ihx _ _ s hQ hx, fun h => by cases h⟩
        · exact ⟨fun h => (by cases h), fun _ => ihy _ _ s hQ hx⟩
      | _ => exact hx.elim
    | func f => exact hx.elim
    | global f => exact hx.elim
  | block id x ih =>
    intro Q Q' s hQ hx
    simp only [xawp] at hx
    simp only [awp]
    refine ih _ _ s (fun e s hx => ?_) hx
    cases e with
    | normal => exact hQ _ _ hx
    | exit j =>
      simp only at hx ⊢
      split at hx
      · rename_i e; rw [if_pos e]; exact hQ _ _ hx
      · rename_i e; rw [if_neg e]; exact hQ _ _ hx
    | ret => exact hQ _ _ hx
  | loop x ih =>
    intro Q Q' s hQ hx
    simp only [xawp] at hx
    simp only [awp]
    exact aloop_mono (fun Q Q' s hQ hx => ih Q Q' s hQ hx) hQ hx
  | exit id => intro Q Q' s hQ hx; exact hQ _ _ hx
  | ret => intro Q Q' s hQ hx; exact hQ _ _ hx
  | _ => intro Q Q' s hQ hx; exact hx.elim
end
end Vx

namespace Vx
open Go
set_option linter.unusedVariables false

/-! ## A function, walked -/
def xresRd (ti : TypeId → Option TI) : List ResultVar → (List SV → List Upd → Rd Eff) → Rd Eff
  | [], f => f [] []
  | .tmp t :: r, f => rdS (.tmp t) fun sv => match sv with
    | .c y => takeRow false [y] fun x us => xresRd ti r fun svs vs => f (x :: svs) (us ++ vs)
    | .agg row => takeRow true row fun x us => xresRd ti r fun svs vs => f (x :: svs) (us ++ vs)
    | .tup _ => fail
  | .cell a ty :: r, f => match ti ty with
    | none => fail
    | some i => rdS (.tmp a) fun sv => match sv with
      | .c (.ptr ⟨.obj k, c, []⟩) => .kind k fun kd => match kd with
        | some (.box m) => if c + i.size ≤ m ∧ (i.agg = true ∨ i.size = 1) then readCells k c i.size fun row => takeRow i.agg row fun x us => xresRd ti r fun svs vs => f (x :: svs) (us ++ vs) else fail
        | _ => fail
      | _ => fail
def xpost (ti : TypeId → Option TI) (ts : List ResultVar) (res : SV) (out : List AR) (s : St) : Prop :=
  (xresRd ti ts fun svs us => if distinct (keysOf us) then .ret ⟨pack svs = res, us⟩ else fail).go s [] fun e _ => e.ok ∧ outOK 0 out (s.upds e.upd)

theorem Le.takeRow {b : Bool} {row : List C} {f g : SV → List Upd → Rd Eff} (h : ∀ x us, Le (f x us) (g x us)) : Le (Vx.takeRow b row f) (Vx.takeRow b row g) := by
  refine Le.takeL fun l us => ?_
  split
  · exact h _ _
  · split
    · exact h _ _
    · exact Le.refl _
theorem Le.readCells {k : Nat} : ∀ {n c : Nat} {f g : List C → Rd Eff}, (∀ l, Le (f l) (g l)) → Le (Vx.readCells k c n f) (Vx.readCells k c n g)
  | 0, c, f, g, h => h _
  | n + 1, c, f, g, h => Le.cell fun x _ => Le.readCells fun l => h _
theorem xresRd_le {P : Program} {ti : TypeId → Option TI} (h : TiOK P ti) : ∀ (ts : List ResultVar) {f g : List SV → List Upd → Rd Eff}, (∀ x us, Le (f x us) (g x us)) → Le (xresRd ti ts f) (resRd P ts g)
  | [], f, g, hf => hf _ _
  | .tmp t :: r, f, g, hf => by
    simp only [xresRd, resRd]
    refine Le.rdS fun sv => ?_
    split
    · exact Le.takeRow fun x us => xresRd_le h r fun svs vs => hf _ _
    · exact Le.takeRow fun x us => xresRd_le h r fun svs vs => hf _ _
    · exact Le.refl _
  | .cell a ty :: r, f, g, hf => by
    simp only [xresRd, resRd]
    cases hi : ti ty with
    | none => exact Le.fail _
    | some i =>
      rw [h ty i hi]
      refine Le.rdS fun sv => ?_
      split
      · refine Le.kind fun kd => ?_
        split
        · simp only
          split
          · rename_i hc
            exact Le.readCells fun row => Le.takeRow fun x us => xresRd_le h r fun svs vs => hf _ _
          · exact Le.fail _
        · exact Le.fail _
      · exact Le.fail _
theorem xpost_le {P : Program} {ti : TypeId → Option TI} (h : TiOK P ti) {ts : List ResultVar} {res : SV} {out : List AR} {s : St} (hx : xpost ti ts res out s) : fnPost P ts res out s :=
  xresRd_le h ts (fun _ _ => Le.refl _) s [] _ (fun _ _ h => h.1) hx

theorem tiOK_of {P : Program} : ∀ (tb : List (Nat × TI)), tb.map (fun p => tinfo P p.1) = tb.map (fun p => some p.2) → TiOK P fun t => lk t tb
  | [], _, t, i, h => by cases h
  | (n, x) :: l, e, t, i, h => by
    simp only [List.map_cons, List.cons.injEq] at e
    simp only [lk] at h
    split at h
    · rename_i q; subst q; cases h; exact e.1
    · exact tiOK_of l e.2 t i h

/-- Where the machine is, at a function's end. -/
def xend (ti : TypeId → Option TI) (ts : List ResultVar) (res : SV) (out : List AR) (ax : AX) (s : St) : Prop :=
  match ax with
  | .exit _ => False
  | _ => xpost ti ts res out s
theorem fn_walk {E : Env} {f : Nat} {fn : Func} {c : Code} (tb : List (Nat × TI)) (keep : List Nat) {fa : List SV} {rs : List AR} {res : SV} {out : List AR} (hmix : E.P.follows .mixedOrders = true) (htb : tb.map (fun p => tinfo E.P p.1) = tb.map (fun p => some p.2))
    (hf : E.P.funcs[f]? = some fn) (hb : fn.body = some c) (hname : (fn.name == "runtime.NumGoroutine") = false) (hok : okCode fn.ntmps c = true) (hfa : fa.length ≤ fn.ntmps) (hd : res.data = true)
    (h : ∀ (ar : BinOp → IntKind → Int → Int → Int) (cm : BinOp → Int → Int → Bool) (sc : BinOp → ByteArray → ByteArray → Bool) (bc : BinOp → Bool → Bool → Bool) (nt : Bool → Bool) (ng : IntKind → Int → Int)
      (ln : List (List T) → Int) (sz : ByteArray → Int) (tn : Int → Nat) (idx : List (List T) → Int → Option (List T)) (get : List (List T) → Nat → Option (List T)) (set : List (List T) → Nat → List T → List (List T)) (vw : List (List T) → List (List T))
      (rep : Int → Int → List T → Option (List (List T))) (nf : Bool → List (List T) → Bool) (R : Rel) (r : SV), (⟨ar, cm, sc, bc, nt, ng, ln, sz, tn, idx, get, set, vw, rep, nf⟩ : Pm) = Pm.real → R = Returns E → r = res →
      xawp ⟨ar, cm, sc, bc, nt, ng, ln, sz, tn, idx, get, set, vw, rep, nf⟩ (fun t => lk t tb) R keep c (xend (fun t => lk t tb) fn.results.toList r out) (entrySt fa rs)) : Returns E f fa rs res out := by
  have hti := tiOK_of tb htb
  refine fn_returns (keep := keep) hmix (step1_ok E _) hf hb hname hok hfa hd (xawp_le hti c _ _ _ (fun ax s hq => ?_) (h _ _ _ _ _ _ _ _ _ _ _ _ _ _ _ _ _ rfl rfl rfl))
  cases ax with
  | normal => exact xpost_le hti hq
  | exit id => exact hq
  | ret => exact xpost_le hti hq
end Vx
namespace Vx
open Go
/-- A loop: the state at each round's head is `S a`, `J` holds of `a`, and `m` falls. -/
theorem aloop_inv {α : Type} {body : (AX → St → Prop) → St → Prop} {Q : AX → St → Prop} {s : St} (kl ol : List Nat) (S : α → St) (J : α → Prop) (m : α → Nat) (a0 : α) (hJ : J a0) (h0 : s.only kl ol = S a0)
    (hb : ∀ a, J a → body (fun e s2 => match e with | .normal => ∃ a', J a' ∧ m a' < m a ∧ s2.only kl ol = S a' | e => Q e s2) (S a)) : aloop body Q s := by
  refine ⟨kl, ol, fun n s => ∃ a, J a ∧ n = m a ∧ s = S a, ⟨m a0, a0, hJ, rfl, h0⟩, ?_⟩
  rintro n s ⟨a, hJa, rfl, rfl⟩
  refine (congrArg (fun q => body q (S a)) ?_).mp (hb a hJa)
  funext e s2
  cases e with
  | normal =>
    refine propext ⟨?_, ?_⟩
    · rintro ⟨a', h1, h2, h3⟩; exact ⟨_, h2, a', h1, rfl, h3⟩
    · rintro ⟨_, h1, a', h2, rfl, h3⟩; exact ⟨a', h2, h1, h3⟩
  | _ => rfl
end Vx
namespace Vx
open Go
/-- A number, as an integer; a name of its own, so that it stays as it is in a walk. -/
def I (n : Nat) : Int := n
theorem I_def (n : Nat) : I n = n := rfl
/-- What the names stand for. -/
structure PF (ar : BinOp → IntKind → Int → Int → Int) (cm : BinOp → Int → Int → Bool) (sc : BinOp → ByteArray → ByteArray → Bool) (bc : BinOp → Bool → Bool → Bool) (nt : Bool → Bool) (ng : IntKind → Int → Int)
      (ln : List (List T) → Int) (sz : ByteArray → Int) (tn : Int → Nat) (idx : List (List T) → Int → Option (List T)) (get : List (List T) → Nat → Option (List T)) (set : List (List T) → Nat → List T → List (List T)) (vw : List (List T) → List (List T))
      (rep : Int → Int → List T → Option (List (List T))) (nf : Bool → List (List T) → Bool) : Prop where
  add : ∀ k a b, ar .add k a b = k.wrap (a + b)
  sub : ∀ k a b, ar .sub k a b = k.wrap (a - b)
  mul : ∀ k a b, ar .mul k a b = k.wrap (a * b)
  eql : ∀ a b, cm .eql a b = decide (a = b)
  neq : ∀ a b, cm .neq a b = decide (a ≠ b)
  lss : ∀ a b, cm .lss a b = decide (a < b)
  leq : ∀ a b, cm .leq a b = decide (a ≤ b)
  gtr : ∀ a b, cm .gtr a b = decide (b < a)
  geq : ∀ a b, cm .geq a b = decide (b ≤ a)
  seql : ∀ a b, sc .eql a b = decide (a = b)
  sneq : ∀ a b, sc .neq a b = decide (a ≠ b)
  beql : ∀ a b, bc .eql a b = (a == b)
  bneq : ∀ a b, bc .neq a b = (a != b)
  nt : ∀ b, nt b = !b
  ng : ∀ k n, ng k n = k.wrap (-n)
  ln : ∀ xs, ln xs = I xs.length
  sz : ∀ s, sz s = I s.size
  tn : ∀ i, tn i = i.toNat
  idx : ∀ xs i, idx xs i = if 0 ≤ i then xs[i.toNat]? else none
  get : ∀ xs i, get xs i = xs[i]?
  set : ∀ xs i r, set xs i r = xs.set i r
  vw : ∀ xs, vw xs = T.viewR xs
  rep : ∀ n m r, rep n m r = if 0 ≤ n ∧ n = m ∧ n ≤ (2 ^ 38 : Nat) then some (List.replicate n.toNat r) else none
  nf : ∀ o xs, nf o xs = ((o || xs.isEmpty) && T.noFzR xs)
theorem PF.of {ar : BinOp → IntKind → Int → Int → Int} {cm : BinOp → Int → Int → Bool} {sc : BinOp → ByteArray → ByteArray → Bool} {bc : BinOp → Bool → Bool → Bool} {nt : Bool → Bool} {ng : IntKind → Int → Int}
      {ln : List (List T) → Int} {sz : ByteArray → Int} {tn : Int → Nat} {idx : List (List T) → Int → Option (List T)} {get : List (List T) → Nat → Option (List T)} {set : List (List T) → Nat → List T → List (List T)} {vw : List (List T) → List (List T)}
      {rep : Int → Int → List T → Option (List (List T))} {nf : Bool → List (List T) → Bool} (h : (⟨ar, cm, sc, bc, nt, ng, ln, sz, tn, idx, get, set, vw, rep, nf⟩ : Pm) = Pm.real) : PF ar cm sc bc nt ng ln sz tn idx get set vw rep nf := by
  obtain ⟨rfl, rfl, rfl, rfl, rfl, rfl, rfl, rfl, rfl, rfl, rfl, rfl, rfl, rfl, rfl⟩ := Pm.mk.inj h
  exact ⟨fun _ _ _ => rfl, fun _ _ _ => rfl, fun _ _ _ => rfl, fun _ _ => rfl, fun _ _ => rfl, fun _ _ => rfl, fun _ _ => rfl, fun _ _ => rfl, fun _ _ => rfl, fun _ _ => rfl, fun _ _ => rfl, fun _ _ => rfl, fun _ _ => rfl,
    fun _ => rfl, fun _ _ => rfl, fun _ => rfl, fun _ => rfl, fun _ => rfl, fun _ _ => rfl, fun _ _ => rfl, fun _ _ _ => rfl, fun _ => rfl, fun _ _ _ => rfl, fun _ _ => rfl⟩
end Vx

namespace Vx
open Go
set_option linter.unusedVariables false
set_option linter.unusedSimpArgs false

/-! ## Data -/
/-- The greatest length that any list or string of an argument has. -/
abbrev BIG : Nat := 9223372036854775807
class G (α : Type) where
  sz : Nat
  cells : Bool → α → List T
  len : ∀ o x, (cells o x).length = sz
  view : ∀ o x, T.viewL (cells o x) = cells false x
  nofz : ∀ x, T.noFzL (cells true x) = true
  inj : ∀ o x y, cells o x = cells o y → x = y
  tot : α → Nat
  fin : α → Prop
  fine : ∀ x, tot x ≤ 2 ^ 40 → fin x
def rows {α : Type} [G α] (o : Bool) (l : List α) : List (List T) := l.map (G.cells o)
def totL {α : Type} [G α] (l : List α) : Nat := l.length + (l.map G.tot).sum
def finL {α : Type} [G α] (l : List α) : Prop := l.length ≤ BIG ∧ ∀ x ∈ l, G.fin x
section
variable {α : Type} [G α]
theorem rows_length (o : Bool) (l : List α) : (rows o l).length = l.length := by simp [rows]
theorem rows_view (o : Bool) : ∀ l : List α, T.viewR (rows o l) = rows false l
  | [] => rfl
  | x :: l => by
    have := rows_view o l
    simp only [rows] at this
    simp only [rows, List.map_cons, T.viewR, G.view, this]
theorem rows_nofz : ∀ l : List α, T.noFzR (rows true l) = true
  | [] => rfl
  | x :: l => by
    have := rows_nofz l
    simp only [rows] at this
    simp only [rows, List.map_cons, T.noFzR, G.nofz, this, Bool.and_self]
theorem rows_inj (o : Bool) : ∀ l m : List α, rows o l = rows o m → l = m
  | [], [], _ => rfl
  | [], y :: m, h => by simp [rows] at h
  | x :: l, [], h => by simp [rows] at h
  | x :: l, y :: m, h => by
    simp only [rows, List.map_cons, List.cons.injEq] at h
    rw [G.inj o x y h.1, rows_inj o l m h.2]
theorem rows_get (o : Bool) (l : List α) (i : Nat) : (rows o l)[i]? = (l[i]?).map (G.cells o) := by simp [rows]
theorem sum_ge {β : Type} (f : β → Nat) : ∀ (l : List β) (x : β), x ∈ l → f x ≤ (l.map f).sum
  | y :: l, x, h => by
    simp only [List.map_cons, List.sum_cons]
    rcases List.mem_cons.1 h with e | e
    · subst e; omega
    · have := sum_ge f l x e; omega
theorem big_of {n : Nat} (h : n ≤ 2 ^ 40) : n ≤ BIG := Nat.le_trans h (by decide)
theorem totL_fine (l : List α) (h : totL l ≤ 2 ^ 40) : finL l := by
  unfold totL at h
  refine ⟨big_of (by omega), fun x hx => G.fine x ?_⟩
  have : G.tot x ≤ (l.map G.tot).sum := sum_ge _ _ _ hx
  omega
end
theorem bytes_inj {a b : ByteArray} (h : T.str a = T.str b) : a = b := by cases h; rfl
instance : G Int where
  sz := 1
  cells _ n := [.int .i64 n]
  len _ _ := rfl
  view _ _ := rfl
  nofz _ := rfl
  inj _ x y h := by simpa using h
  tot _ := 0
  fin _ := True
  fine _ _ := trivial
instance : G ByteArray where
  sz := 1
  cells _ s := [.str s]
  len _ _ := rfl
  view _ _ := rfl
  nofz _ := rfl
  inj _ x y h := by simpa using h
  tot s := s.size
  fin s := s.size ≤ BIG
  fine s h := big_of h
instance {α : Type} [G α] : G (List α) where
  sz := 1
  cells o l := [.sl o (G.sz α) (rows o l)]
  len _ _ := rfl
  view o l := by simp [T.viewL, T.view, rows_view]
  nofz l := by simp [T.noFzL, T.noFz, rows_nofz]
  inj o x y h := by
    simp only [List.cons.injEq, T.sl.injEq, and_true, true_and] at h
    exact rows_inj o x y h
  tot l := totL l
  fin l := finL l
  fine l h := totL_fine l h
open Classical in
/-- Are they the same? -/
noncomputable def same {α : Type} (x y : α) : Bool := decide (x = y)
theorem same_iff {α : Type} {x y : α} : same x y = true ↔ x = y := by simp [same]
theorem same_self {α : Type} (x : α) : same x x = true := by simp [same]
theorem same_false {α : Type} {x y : α} : same x y = false ↔ x ≠ y := by simp [same]
/-- What is left when `n` is taken from `left`. -/
def szv (n : Nat) (left : Int) : Int := if (n : Int) ≤ left then left - n else -1
theorem wrap_id {x : Int} (h1 : -2 ^ 63 ≤ x) (h2 : x < 2 ^ 63) : IntKind.i64.wrap x = x := by rw [IntKind.wrap_i64]; omega
end Vx
namespace Vx
theorem sum_take_le {β : Type} (f : β → Nat) : ∀ (l : List β) (k : Nat), ((l.take k).map f).sum ≤ (l.map f).sum
  | [], k => by simp
  | x :: l, 0 => by simp
  | x :: l, k + 1 => by have := sum_take_le f l k; simp only [List.take_succ_cons, List.map_cons, List.sum_cons]; omega
theorem sum_take_succ {β : Type} (f : β → Nat) : ∀ (l : List β) (k : Nat) (h : k < l.length), ((l.take (k + 1)).map f).sum = ((l.take k).map f).sum + f l[k]
  | x :: l, 0, h => by simp
  | x :: l, k + 1, h => by
    have := sum_take_succ f l k (by simpa using h)
    simp only [List.take_succ_cons, List.map_cons, List.sum_cons, List.getElem_cons_succ]
    omega
end Vx
namespace Vx
open Go
theorem szv_neg {n : Nat} {u v : Int} (hv : szv n u = v) (h : v < 0) : v = -1 ∧ (u < 0 ∨ u < I n) := by
  unfold szv at hv; unfold I; split at hv <;> omega
theorem szv_pos {n : Nat} {u v : Int} (hv : szv n u = v) (h : ¬ v < 0) : I n ≤ u ∧ v = u - I n := by
  unfold szv at hv; unfold I; split at hv <;> omega
theorem szv_is_neg {n : Nat} {u : Int} (h : u < I n) : szv n u = -1 := by unfold szv; unfold I at h; rw [if_neg (by omega)]
theorem szv_is {n : Nat} {u : Int} (h : I n ≤ u) : szv n u = u - I n := by unfold szv; unfold I at *; rw [if_pos (by omega)]
/-- A list that is being copied: so many are done. -/
def mid {α : Type} [G α] (l : List α) (k : Nat) (z : List T) : List (List T) := rows true (l.take k) ++ List.replicate (l.length - k) z
section
variable {α : Type} [G α] (l : List α) (z : List T)
theorem mid_zero : mid l 0 z = List.replicate l.length z := by simp [mid, rows]
theorem mid_all : mid l l.length z = rows true l := by simp [mid]
theorem mid_get (k : Nat) (h : k < l.length) : (mid l k z)[k]? = some z := by
  unfold mid
  have hl : (rows true (l.take k)).length = k := by rw [rows_length]; simp; omega
  rw [List.getElem?_append_right (by omega), hl, Nat.sub_self, List.getElem?_replicate, if_pos (by omega)]
theorem mid_set (k : Nat) (h : k < l.length) : (mid l k z).set k (G.cells true l[k]) = mid l (k + 1) z := by
  apply List.ext_getElem?
  intro i
  unfold mid
  have hl : (rows true (l.take k)).length = k := by rw [rows_length]; simp; omega
  have hl2 : (rows true (l.take (k + 1))).length = k + 1 := by rw [rows_length]; simp; omega
  by_cases e : k = i
  · subst e
    rw [List.getElem?_set_self (by simp [hl]; omega), List.getElem?_append_left (by omega), rows_get]
    simp [h]
  · rw [List.getElem?_set_ne e]
    by_cases hlt : i < k
    · rw [List.getElem?_append_left (by omega), List.getElem?_append_left (by omega), rows_get, rows_get, List.getElem?_take, List.getElem?_take, if_pos hlt, if_pos (by omega)]
    · rw [List.getElem?_append_right (by omega), List.getElem?_append_right (by omega), hl, hl2, List.getElem?_replicate, List.getElem?_replicate]
      by_cases q : i < l.length
      · rw [if_pos (by omega), if_pos (by omega)]
      · rw [if_neg (by omega), if_neg (by omega)]
theorem take_eq_succ {β : Type} {l m : List β} {k : Nat} (h : l.take k = m.take k) (h1 : k < l.length) (h2 : k < m.length) (e : l[k] = m[k]) : l.take (k + 1) = m.take (k + 1) := by
  rw [List.take_add_one, List.take_add_one, h, List.getElem?_eq_getElem h1, List.getElem?_eq_getElem h2, e]
end
end Vx
namespace Vx
theorem tot_mem {α : Type} [G α] {l : List α} {x : α} (h : x ∈ l) : G.tot x ≤ totL l := by
  have := sum_ge G.tot l x h
  unfold totL
  omega
theorem len_tot {α : Type} [G α] (l : List α) : l.length ≤ totL l := by unfold totL; omega
end Vx

namespace Vx
open Go
set_option linter.unusedVariables false
set_option linter.unusedSimpArgs false
/-! ## The types of the program, cell by cell -/
namespace D
structure Expr where
  kind : Int
  name : ByteArray
  args : List Expr
mutual
def Expr.cellsE (o : Bool) : Expr → List T
  | ⟨k, n, as⟩ => [.int .i64 k, .str n, .sl o 3 (Expr.rowsE o as)]
def Expr.rowsE (o : Bool) : List Expr → List (List T)
  | [] => []
  | x :: l => Expr.cellsE o x :: Expr.rowsE o l
end
mutual
def Expr.totE : Expr → Nat
  | ⟨_, n, as⟩ => n.size + Expr.totsE as
def Expr.totsE : List Expr → Nat
  | [] => 0
  | x :: l => 1 + Expr.totE x + Expr.totsE l
end
inductive Expr.FinE : Expr → Prop
  | mk {k n as} (h1 : n.size ≤ BIG) (h2 : as.length ≤ BIG) (h3 : ∀ x ∈ as, Expr.FinE x) : Expr.FinE ⟨k, n, as⟩
theorem Expr.rowsE_eq (o : Bool) : ∀ l, Expr.rowsE o l = l.map (Expr.cellsE o)
  | [] => rfl
  | x :: l => by rw [Expr.rowsE, Expr.rowsE_eq o l]; rfl
theorem Expr.totsE_eq : ∀ l, Expr.totsE l = l.length + (l.map Expr.totE).sum
  | [] => rfl
  | x :: l => by rw [Expr.totsE, Expr.totsE_eq l]; simp; omega
/-- Induction on the depth. -/
theorem Expr.ind {P : Expr → Prop} (h : ∀ k n as, (∀ x ∈ as, P x) → P ⟨k, n, as⟩) : ∀ e, P e
  | ⟨k, n, as⟩ => h k n as fun x _ => Expr.ind h x
theorem Expr.lenE (o : Bool) (e : Expr) : (Expr.cellsE o e).length = 3 := by cases e; rfl
theorem Expr.viewE (o : Bool) : ∀ e, T.viewL (Expr.cellsE o e) = Expr.cellsE false e := by
  refine Expr.ind fun k n as ih => ?_
  have : ∀ l : List Expr, (∀ x ∈ l, T.viewL (Expr.cellsE o x) = Expr.cellsE false x) → T.viewR (Expr.rowsE o l) = Expr.rowsE false l := by
    intro l
    induction l with
    | nil => intro _; rfl
    | cons x l ih => intro h; simp only [Expr.rowsE, T.viewR, h x (by simp), ih fun y hy => h y (by simp [hy])]
  simp only [Expr.cellsE, T.viewL, T.view, this as ih]
theorem Expr.nofzE : ∀ e, T.noFzL (Expr.cellsE true e) = true := by
  refine Expr.ind fun k n as ih => ?_
  have : ∀ l : List Expr, (∀ x ∈ l, T.noFzL (Expr.cellsE true x) = true) → T.noFzR (Expr.rowsE true l) = true := by
    intro l
    induction l with
    | nil => intro _; rfl
    | cons x l ih => intro h; simp only [Expr.rowsE, T.noFzR, h x (by simp), ih fun y hy => h y (by simp [hy]), Bool.and_self]
  simp only [Expr.cellsE, T.noFzL, T.noFz, this as ih, Bool.true_or, Bool.and_self]
theorem Expr.injE (o : Bool) : ∀ x y, Expr.cellsE o x = Expr.cellsE o y → x = y := by
  refine Expr.ind fun k n as ih => ?_
  rintro ⟨k', n', bs⟩ h
  simp only [Expr.cellsE, List.cons.injEq, T.int.injEq, T.str.injEq, T.sl.injEq, true_and, and_true] at h
  have : ∀ l m : List Expr, (∀ x ∈ l, ∀ y, Expr.cellsE o x = Expr.cellsE o y → x = y) → Expr.rowsE o l = Expr.rowsE o m → l = m := by
    intro l
    induction l with
    | nil => intro m _ h; cases m <;> simp [Expr.rowsE] at h ⊢
    | cons x l ih =>
      intro m hx h
      cases m with
      | nil => simp [Expr.rowsE] at h
      | cons y m =>
        simp only [Expr.rowsE, List.cons.injEq] at h
        rw [hx x (by simp) y h.1, ih m (fun z hz => hx z (by simp [hz])) h.2]
  rw [h.1, h.2.1, this as bs ih h.2.2]
theorem Expr.fineE : ∀ e, Expr.totE e ≤ 2 ^ 40 → Expr.FinE e := by
  refine Expr.ind fun k n as ih => ?_
  intro h
  simp only [Expr.totE, Expr.totsE_eq] at h
  refine .mk (big_of (by omega)) (big_of (by omega)) fun x hx => ih x hx ?_
  have : Expr.totE x ≤ (as.map Expr.totE).sum := sum_ge _ _ _ hx
  omega
theorem Expr.ext_of {x y : Expr} (h0 : x.kind = y.kind) (h1 : x.name = y.name) (h2 : x.args = y.args) : x = y := by cases x; cases y; simp_all
instance : G Expr where
  sz := 3
  cells := Expr.cellsE
  len := Expr.lenE
  view := Expr.viewE
  nofz := Expr.nofzE
  inj := Expr.injE
  tot := Expr.totE
  fin := Expr.FinE
  fine := Expr.fineE
theorem Expr.cells (o : Bool) (e : Expr) : G.cells o e = [.int .i64 e.kind, .str e.name, .sl o 3 (rows o e.args)] := by
  obtain ⟨k, n, as⟩ := e
  show Expr.cellsE o _ = _
  rw [Expr.cellsE, Expr.rowsE_eq]
  rfl
theorem Expr.tot (e : Expr) : G.tot e = e.name.size + totL e.args := by
  obtain ⟨k, n, as⟩ := e
  show Expr.totE _ = _
  rw [Expr.totE, Expr.totsE_eq]
  rfl
theorem Expr.fin (e : Expr) : G.fin e ↔ e.name.size ≤ BIG ∧ finL e.args := by
  obtain ⟨k, n, as⟩ := e
  constructor
  · rintro ⟨h1, h2, h3⟩; exact ⟨h1, h2, h3⟩
  · rintro ⟨h1, h2, h3⟩; exact .mk h1 h2 h3
structure Rule where
  name : ByteArray
  con : ByteArray
  vars : List ByteArray
  params : List ByteArray
  body : Expr
def Rule.cellsF (o : Bool) (x : Rule) : List T := [.str x.name, .str x.con, .sl o 1 (rows o x.vars), .sl o 1 (rows o x.params), .int .i64 x.body.kind, .str x.body.name, .sl o 3 (rows o x.body.args)]
theorem Rule.ext_of {x y : Rule} (h0 : x.name = y.name) (h1 : x.con = y.con) (h2 : x.vars = y.vars) (h3 : x.params = y.params) (h4 : x.body = y.body) : x = y := by cases x; cases y; simp_all
instance : G Rule where
  sz := 7
  cells := Rule.cellsF
  len _ _ := rfl
  view o x := by simp [Rule.cellsF, T.viewL, T.view, rows_view]
  nofz x := by simp [Rule.cellsF, T.noFzL, T.noFz, rows_nofz]
  inj o x y h := by
    simp only [Rule.cellsF, List.cons.injEq, T.int.injEq, T.str.injEq, T.bool.injEq, T.sl.injEq, true_and, and_true] at h
    obtain ⟨h0, h1, h2, h3, h4, h5, h6⟩ := h
    exact Rule.ext_of (h0) (h1) (rows_inj o _ _ h2) (rows_inj o _ _ h3) (Expr.ext_of (h4) (h5) (rows_inj o _ _ h6))
  tot x := x.name.size + x.con.size + totL x.vars + totL x.params + G.tot x.body
  fin x := x.name.size ≤ BIG ∧ x.con.size ≤ BIG ∧ finL x.vars ∧ finL x.params ∧ G.fin x.body
  fine x h := ⟨big_of (by omega), big_of (by omega), totL_fine _ (by omega), totL_fine _ (by omega), G.fine _ (by omega)⟩
theorem Rule.cells (o : Bool) (x : Rule) : G.cells o x = [.str x.name, .str x.con, .sl o 1 (rows o x.vars), .sl o 1 (rows o x.params), .int .i64 x.body.kind, .str x.body.name, .sl o 3 (rows o x.body.args)] := rfl
theorem Rule.tot (x : Rule) : G.tot x = x.name.size + x.con.size + totL x.vars + totL x.params + G.tot x.body := rfl
structure Program where
  rules : List Rule
def Program.cellsF (o : Bool) (x : Program) : List T := [.sl o 7 (rows o x.rules)]
theorem Program.ext_of {x y : Program} (h0 : x.rules = y.rules) : x = y := by cases x; cases y; simp_all
instance : G Program where
  sz := 1
  cells := Program.cellsF
  len _ _ := rfl
  view o x := by simp [Program.cellsF, T.viewL, T.view, rows_view]
  nofz x := by simp [Program.cellsF, T.noFzL, T.noFz, rows_nofz]
  inj o x y h := by
    simp only [Program.cellsF, List.cons.injEq, T.int.injEq, T.str.injEq, T.bool.injEq, T.sl.injEq, true_and, and_true] at h
    have h0 := h
    exact Program.ext_of (rows_inj o _ _ h0)
  tot x := totL x.rules
  fin x := finL x.rules
  fine x h := totL_fine _ (by omega)
theorem Program.cells (o : Bool) (x : Program) : G.cells o x = [.sl o 7 (rows o x.rules)] := rfl
theorem Program.tot (x : Program) : G.tot x = totL x.rules := rfl
structure Binding where
  name : ByteArray
  value : Expr
def Binding.cellsF (o : Bool) (x : Binding) : List T := [.str x.name, .int .i64 x.value.kind, .str x.value.name, .sl o 3 (rows o x.value.args)]
theorem Binding.ext_of {x y : Binding} (h0 : x.name = y.name) (h1 : x.value = y.value) : x = y := by cases x; cases y; simp_all
instance : G Binding where
  sz := 4
  cells := Binding.cellsF
  len _ _ := rfl
  view o x := by simp [Binding.cellsF, T.viewL, T.view, rows_view]
  nofz x := by simp [Binding.cellsF, T.noFzL, T.noFz, rows_nofz]
  inj o x y h := by
    simp only [Binding.cellsF, List.cons.injEq, T.int.injEq, T.str.injEq, T.bool.injEq, T.sl.injEq, true_and, and_true] at h
    obtain ⟨h0, h1, h2, h3⟩ := h
    exact Binding.ext_of (h0) (Expr.ext_of (h1) (h2) (rows_inj o _ _ h3))
  tot x := x.name.size + G.tot x.value
  fin x := x.name.size ≤ BIG ∧ G.fin x.value
  fine x h := ⟨big_of (by omega), G.fine _ (by omega)⟩
theorem Binding.cells (o : Bool) (x : Binding) : G.cells o x = [.str x.name, .int .i64 x.value.kind, .str x.value.name, .sl o 3 (rows o x.value.args)] := rfl
theorem Binding.tot (x : Binding) : G.tot x = x.name.size + G.tot x.value := rfl
structure Outcome where
  status : Int
  value : Expr
  steps : Int
def Outcome.cellsF (o : Bool) (x : Outcome) : List T := [.int .i64 x.status, .int .i64 x.value.kind, .str x.value.name, .sl o 3 (rows o x.value.args), .int .i64 x.steps]
theorem Outcome.ext_of {x y : Outcome} (h0 : x.status = y.status) (h1 : x.value = y.value) (h2 : x.steps = y.steps) : x = y := by cases x; cases y; simp_all
instance : G Outcome where
  sz := 5
  cells := Outcome.cellsF
  len _ _ := rfl
  view o x := by simp [Outcome.cellsF, T.viewL, T.view, rows_view]
  nofz x := by simp [Outcome.cellsF, T.noFzL, T.noFz, rows_nofz]
  inj o x y h := by
    simp only [Outcome.cellsF, List.cons.injEq, T.int.injEq, T.str.injEq, T.bool.injEq, T.sl.injEq, true_and, and_true] at h
    obtain ⟨h0, h1, h2, h3, h4⟩ := h
    exact Outcome.ext_of (h0) (Expr.ext_of (h1) (h2) (rows_inj o _ _ h3)) (h4)
  tot x := G.tot x.value
  fin x := G.fin x.value
  fine x h := G.fine _ (by omega)
theorem Outcome.cells (o : Bool) (x : Outcome) : G.cells o x = [.int .i64 x.status, .int .i64 x.value.kind, .str x.value.name, .sl o 3 (rows o x.value.args), .int .i64 x.steps] := rfl
theorem Outcome.tot (x : Outcome) : G.tot x = G.tot x.value := rfl
structure General where
  term : Expr
  first : List Binding
  second : List Binding
def General.cellsF (o : Bool) (x : General) : List T := [.int .i64 x.term.kind, .str x.term.name, .sl o 3 (rows o x.term.args), .sl o 4 (rows o x.first), .sl o 4 (rows o x.second)]
theorem General.ext_of {x y : General} (h0 : x.term = y.term) (h1 : x.first = y.first) (h2 : x.second = y.second) : x = y := by cases x; cases y; simp_all
instance : G General where
  sz := 5
  cells := General.cellsF
  len _ _ := rfl
  view o x := by simp [General.cellsF, T.viewL, T.view, rows_view]
  nofz x := by simp [General.cellsF, T.noFzL, T.noFz, rows_nofz]
  inj o x y h := by
    simp only [General.cellsF, List.cons.injEq, T.int.injEq, T.str.injEq, T.bool.injEq, T.sl.injEq, true_and, and_true] at h
    obtain ⟨h0, h1, h2, h3, h4⟩ := h
    exact General.ext_of (Expr.ext_of (h0) (h1) (rows_inj o _ _ h2)) (rows_inj o _ _ h3) (rows_inj o _ _ h4)
  tot x := G.tot x.term + totL x.first + totL x.second
  fin x := G.fin x.term ∧ finL x.first ∧ finL x.second
  fine x h := ⟨G.fine _ (by omega), totL_fine _ (by omega), totL_fine _ (by omega)⟩
theorem General.cells (o : Bool) (x : General) : G.cells o x = [.int .i64 x.term.kind, .str x.term.name, .sl o 3 (rows o x.term.args), .sl o 4 (rows o x.first), .sl o 4 (rows o x.second)] := rfl
theorem General.tot (x : General) : G.tot x = G.tot x.term + totL x.first + totL x.second := rfl
structure Branch where
  expr : Expr
  var : ByteArray
  con : ByteArray
  vars : List ByteArray
def Branch.cellsF (o : Bool) (x : Branch) : List T := [.int .i64 x.expr.kind, .str x.expr.name, .sl o 3 (rows o x.expr.args), .str x.var, .str x.con, .sl o 1 (rows o x.vars)]
theorem Branch.ext_of {x y : Branch} (h0 : x.expr = y.expr) (h1 : x.var = y.var) (h2 : x.con = y.con) (h3 : x.vars = y.vars) : x = y := by cases x; cases y; simp_all
instance : G Branch where
  sz := 6
  cells := Branch.cellsF
  len _ _ := rfl
  view o x := by simp [Branch.cellsF, T.viewL, T.view, rows_view]
  nofz x := by simp [Branch.cellsF, T.noFzL, T.noFz, rows_nofz]
  inj o x y h := by
    simp only [Branch.cellsF, List.cons.injEq, T.int.injEq, T.str.injEq, T.bool.injEq, T.sl.injEq, true_and, and_true] at h
    obtain ⟨h0, h1, h2, h3, h4, h5⟩ := h
    exact Branch.ext_of (Expr.ext_of (h0) (h1) (rows_inj o _ _ h2)) (h3) (h4) (rows_inj o _ _ h5)
  tot x := G.tot x.expr + x.var.size + x.con.size + totL x.vars
  fin x := G.fin x.expr ∧ x.var.size ≤ BIG ∧ x.con.size ≤ BIG ∧ finL x.vars
  fine x h := ⟨G.fine _ (by omega), big_of (by omega), big_of (by omega), totL_fine _ (by omega)⟩
theorem Branch.cells (o : Bool) (x : Branch) : G.cells o x = [.int .i64 x.expr.kind, .str x.expr.name, .sl o 3 (rows o x.expr.args), .str x.var, .str x.con, .sl o 1 (rows o x.vars)] := rfl
theorem Branch.tot (x : Branch) : G.tot x = G.tot x.expr + x.var.size + x.con.size + totL x.vars := rfl
structure Node where
  kind : Int
  expr : Expr
  parent : Int
  children : List Int
  var : ByteArray
  con : ByteArray
  vars : List ByteArray
  lets : List Binding
  back : Int
def Node.cellsF (o : Bool) (x : Node) : List T := [.int .i64 x.kind, .int .i64 x.expr.kind, .str x.expr.name, .sl o 3 (rows o x.expr.args), .int .i64 x.parent, .sl o 1 (rows o x.children), .str x.var, .str x.con, .sl o 1 (rows o x.vars), .sl o 4 (rows o x.lets), .int .i64 x.back]
theorem Node.ext_of {x y : Node} (h0 : x.kind = y.kind) (h1 : x.expr = y.expr) (h2 : x.parent = y.parent) (h3 : x.children = y.children) (h4 : x.var = y.var) (h5 : x.con = y.con) (h6 : x.vars = y.vars) (h7 : x.lets = y.lets) (h8 : x.back = y.back) : x = y := by cases x; cases y; simp_all
instance : G Node where
  sz := 11
  cells := Node.cellsF
  len _ _ := rfl
  view o x := by simp [Node.cellsF, T.viewL, T.view, rows_view]
  nofz x := by simp [Node.cellsF, T.noFzL, T.noFz, rows_nofz]
  inj o x y h := by
    simp only [Node.cellsF, List.cons.injEq, T.int.injEq, T.str.injEq, T.bool.injEq, T.sl.injEq, true_and, and_true] at h
    obtain ⟨h0, h1, h2, h3, h4, h5, h6, h7, h8, h9, h10⟩ := h
    exact Node.ext_of (h0) (Expr.ext_of (h1) (h2) (rows_inj o _ _ h3)) (h4) (rows_inj o _ _ h5) (h6) (h7) (rows_inj o _ _ h8) (rows_inj o _ _ h9) (h10)
  tot x := G.tot x.expr + totL x.children + x.var.size + x.con.size + totL x.vars + totL x.lets
  fin x := G.fin x.expr ∧ finL x.children ∧ x.var.size ≤ BIG ∧ x.con.size ≤ BIG ∧ finL x.vars ∧ finL x.lets
  fine x h := ⟨G.fine _ (by omega), totL_fine _ (by omega), big_of (by omega), big_of (by omega), totL_fine _ (by omega), totL_fine _ (by omega)⟩
theorem Node.cells (o : Bool) (x : Node) : G.cells o x = [.int .i64 x.kind, .int .i64 x.expr.kind, .str x.expr.name, .sl o 3 (rows o x.expr.args), .int .i64 x.parent, .sl o 1 (rows o x.children), .str x.var, .str x.con, .sl o 1 (rows o x.vars), .sl o 4 (rows o x.lets), .int .i64 x.back] := rfl
theorem Node.tot (x : Node) : G.tot x = G.tot x.expr + totL x.children + x.var.size + x.con.size + totL x.vars + totL x.lets := rfl
structure Tree where
  nodes : List Node
def Tree.cellsF (o : Bool) (x : Tree) : List T := [.sl o 11 (rows o x.nodes)]
theorem Tree.ext_of {x y : Tree} (h0 : x.nodes = y.nodes) : x = y := by cases x; cases y; simp_all
instance : G Tree where
  sz := 1
  cells := Tree.cellsF
  len _ _ := rfl
  view o x := by simp [Tree.cellsF, T.viewL, T.view, rows_view]
  nofz x := by simp [Tree.cellsF, T.noFzL, T.noFz, rows_nofz]
  inj o x y h := by
    simp only [Tree.cellsF, List.cons.injEq, T.int.injEq, T.str.injEq, T.bool.injEq, T.sl.injEq, true_and, and_true] at h
    have h0 := h
    exact Tree.ext_of (rows_inj o _ _ h0)
  tot x := totL x.nodes
  fin x := finL x.nodes
  fine x h := totL_fine _ (by omega)
theorem Tree.cells (o : Bool) (x : Tree) : G.cells o x = [.sl o 11 (rows o x.nodes)] := rfl
theorem Tree.tot (x : Tree) : G.tot x = totL x.nodes := rfl
structure Residual where
  program : Program
  start : Expr
def Residual.cellsF (o : Bool) (x : Residual) : List T := [.sl o 7 (rows o x.program.rules), .int .i64 x.start.kind, .str x.start.name, .sl o 3 (rows o x.start.args)]
theorem Residual.ext_of {x y : Residual} (h0 : x.program = y.program) (h1 : x.start = y.start) : x = y := by cases x; cases y; simp_all
instance : G Residual where
  sz := 4
  cells := Residual.cellsF
  len _ _ := rfl
  view o x := by simp [Residual.cellsF, T.viewL, T.view, rows_view]
  nofz x := by simp [Residual.cellsF, T.noFzL, T.noFz, rows_nofz]
  inj o x y h := by
    simp only [Residual.cellsF, List.cons.injEq, T.int.injEq, T.str.injEq, T.bool.injEq, T.sl.injEq, true_and, and_true] at h
    obtain ⟨h0, h1, h2, h3⟩ := h
    exact Residual.ext_of (Program.ext_of (rows_inj o _ _ h0)) (Expr.ext_of (h1) (h2) (rows_inj o _ _ h3))
  tot x := G.tot x.program + G.tot x.start
  fin x := G.fin x.program ∧ G.fin x.start
  fine x h := ⟨G.fine _ (by omega), G.fine _ (by omega)⟩
theorem Residual.cells (o : Bool) (x : Residual) : G.cells o x = [.sl o 7 (rows o x.program.rules), .int .i64 x.start.kind, .str x.start.name, .sl o 3 (rows o x.start.args)] := rfl
theorem Residual.tot (x : Residual) : G.tot x = G.tot x.program + G.tot x.start := rfl
structure Shape where
  name : ByteArray
  arity : Int
def Shape.cellsF (o : Bool) (x : Shape) : List T := [.str x.name, .int .i64 x.arity]
theorem Shape.ext_of {x y : Shape} (h0 : x.name = y.name) (h1 : x.arity = y.arity) : x = y := by cases x; cases y; simp_all
instance : G Shape where
  sz := 2
  cells := Shape.cellsF
  len _ _ := rfl
  view o x := by simp [Shape.cellsF, T.viewL, T.view, rows_view]
  nofz x := by simp [Shape.cellsF, T.noFzL, T.noFz, rows_nofz]
  inj o x y h := by
    simp only [Shape.cellsF, List.cons.injEq, T.int.injEq, T.str.injEq, T.bool.injEq, T.sl.injEq, true_and, and_true] at h
    obtain ⟨h0, h1⟩ := h
    exact Shape.ext_of (h0) (h1)
  tot x := x.name.size
  fin x := x.name.size ≤ BIG
  fine x h := big_of (by omega)
theorem Shape.cells (o : Bool) (x : Shape) : G.cells o x = [.str x.name, .int .i64 x.arity] := rfl
theorem Shape.tot (x : Shape) : G.tot x = x.name.size := rfl
structure Comparison where
  cases : Int
  same : Int
  opens : Int
  source : Int
  target : Int
def Comparison.cellsF (o : Bool) (x : Comparison) : List T := [.int .i64 x.cases, .int .i64 x.same, .int .i64 x.opens, .int .i64 x.source, .int .i64 x.target]
theorem Comparison.ext_of {x y : Comparison} (h0 : x.cases = y.cases) (h1 : x.same = y.same) (h2 : x.opens = y.opens) (h3 : x.source = y.source) (h4 : x.target = y.target) : x = y := by cases x; cases y; simp_all
instance : G Comparison where
  sz := 5
  cells := Comparison.cellsF
  len _ _ := rfl
  view o x := by simp [Comparison.cellsF, T.viewL, T.view, rows_view]
  nofz x := by simp [Comparison.cellsF, T.noFzL, T.noFz, rows_nofz]
  inj o x y h := by
    simp only [Comparison.cellsF, List.cons.injEq, T.int.injEq, T.str.injEq, T.bool.injEq, T.sl.injEq, true_and, and_true] at h
    obtain ⟨h0, h1, h2, h3, h4⟩ := h
    exact Comparison.ext_of (h0) (h1) (h2) (h3) (h4)
  tot x := 0
  fin x := True
  fine _ _ := trivial
theorem Comparison.cells (o : Bool) (x : Comparison) : G.cells o x = [.int .i64 x.cases, .int .i64 x.same, .int .i64 x.opens, .int .i64 x.source, .int .i64 x.target] := rfl
theorem Comparison.tot (x : Comparison) : G.tot x = 0 := rfl
structure Sorts where
  cons : List ByteArray
  ofs : List Int
  args : List (List Int)
  funs : List ByteArray
  params : List (List Int)
  results : List Int
  count : Int
def Sorts.cellsF (o : Bool) (x : Sorts) : List T := [.sl o 1 (rows o x.cons), .sl o 1 (rows o x.ofs), .sl o 1 (rows o x.args), .sl o 1 (rows o x.funs), .sl o 1 (rows o x.params), .sl o 1 (rows o x.results), .int .i64 x.count]
theorem Sorts.ext_of {x y : Sorts} (h0 : x.cons = y.cons) (h1 : x.ofs = y.ofs) (h2 : x.args = y.args) (h3 : x.funs = y.funs) (h4 : x.params = y.params) (h5 : x.results = y.results) (h6 : x.count = y.count) : x = y := by cases x; cases y; simp_all
instance : G Sorts where
  sz := 7
  cells := Sorts.cellsF
  len _ _ := rfl
  view o x := by simp [Sorts.cellsF, T.viewL, T.view, rows_view]
  nofz x := by simp [Sorts.cellsF, T.noFzL, T.noFz, rows_nofz]
  inj o x y h := by
    simp only [Sorts.cellsF, List.cons.injEq, T.int.injEq, T.str.injEq, T.bool.injEq, T.sl.injEq, true_and, and_true] at h
    obtain ⟨h0, h1, h2, h3, h4, h5, h6⟩ := h
    exact Sorts.ext_of (rows_inj o _ _ h0) (rows_inj o _ _ h1) (rows_inj o _ _ h2) (rows_inj o _ _ h3) (rows_inj o _ _ h4) (rows_inj o _ _ h5) (h6)
  tot x := totL x.cons + totL x.ofs + totL x.args + totL x.funs + totL x.params + totL x.results
  fin x := finL x.cons ∧ finL x.ofs ∧ finL x.args ∧ finL x.funs ∧ finL x.params ∧ finL x.results
  fine x h := ⟨totL_fine _ (by omega), totL_fine _ (by omega), totL_fine _ (by omega), totL_fine _ (by omega), totL_fine _ (by omega), totL_fine _ (by omega)⟩
theorem Sorts.cells (o : Bool) (x : Sorts) : G.cells o x = [.sl o 1 (rows o x.cons), .sl o 1 (rows o x.ofs), .sl o 1 (rows o x.args), .sl o 1 (rows o x.funs), .sl o 1 (rows o x.params), .sl o 1 (rows o x.results), .int .i64 x.count] := rfl
theorem Sorts.tot (x : Sorts) : G.tot x = totL x.cons + totL x.ofs + totL x.args + totL x.funs + totL x.params + totL x.results := rfl
structure Typing where
  name : ByteArray
  sort : Int
def Typing.cellsF (o : Bool) (x : Typing) : List T := [.str x.name, .int .i64 x.sort]
theorem Typing.ext_of {x y : Typing} (h0 : x.name = y.name) (h1 : x.sort = y.sort) : x = y := by cases x; cases y; simp_all
instance : G Typing where
  sz := 2
  cells := Typing.cellsF
  len _ _ := rfl
  view o x := by simp [Typing.cellsF, T.viewL, T.view, rows_view]
  nofz x := by simp [Typing.cellsF, T.noFzL, T.noFz, rows_nofz]
  inj o x y h := by
    simp only [Typing.cellsF, List.cons.injEq, T.int.injEq, T.str.injEq, T.bool.injEq, T.sl.injEq, true_and, and_true] at h
    obtain ⟨h0, h1⟩ := h
    exact Typing.ext_of (h0) (h1)
  tot x := x.name.size
  fin x := x.name.size ≤ BIG
  fine x h := big_of (by omega)
theorem Typing.cells (o : Bool) (x : Typing) : G.cells o x = [.str x.name, .int .i64 x.sort] := rfl
theorem Typing.tot (x : Typing) : G.tot x = x.name.size := rfl
structure Verdict where
  code : Int
  case : List Binding
def Verdict.cellsF (o : Bool) (x : Verdict) : List T := [.int .i64 x.code, .sl o 4 (rows o x.case)]
theorem Verdict.ext_of {x y : Verdict} (h0 : x.code = y.code) (h1 : x.case = y.case) : x = y := by cases x; cases y; simp_all
instance : G Verdict where
  sz := 2
  cells := Verdict.cellsF
  len _ _ := rfl
  view o x := by simp [Verdict.cellsF, T.viewL, T.view, rows_view]
  nofz x := by simp [Verdict.cellsF, T.noFzL, T.noFz, rows_nofz]
  inj o x y h := by
    simp only [Verdict.cellsF, List.cons.injEq, T.int.injEq, T.str.injEq, T.bool.injEq, T.sl.injEq, true_and, and_true] at h
    obtain ⟨h0, h1⟩ := h
    exact Verdict.ext_of (h0) (rows_inj o _ _ h1)
  tot x := totL x.case
  fin x := finL x.case
  fine x h := totL_fine _ (by omega)
theorem Verdict.cells (o : Bool) (x : Verdict) : G.cells o x = [.int .i64 x.code, .sl o 4 (rows o x.case)] := rfl
theorem Verdict.tot (x : Verdict) : G.tot x = totL x.case := rfl
structure Variant where
  policy : Int
  residual : Residual
  rules : Int
  steps : Int
def Variant.cellsF (o : Bool) (x : Variant) : List T := [.int .i64 x.policy, .sl o 7 (rows o x.residual.program.rules), .int .i64 x.residual.start.kind, .str x.residual.start.name, .sl o 3 (rows o x.residual.start.args), .int .i64 x.rules, .int .i64 x.steps]
theorem Variant.ext_of {x y : Variant} (h0 : x.policy = y.policy) (h1 : x.residual = y.residual) (h2 : x.rules = y.rules) (h3 : x.steps = y.steps) : x = y := by cases x; cases y; simp_all
instance : G Variant where
  sz := 7
  cells := Variant.cellsF
  len _ _ := rfl
  view o x := by simp [Variant.cellsF, T.viewL, T.view, rows_view]
  nofz x := by simp [Variant.cellsF, T.noFzL, T.noFz, rows_nofz]
  inj o x y h := by
    simp only [Variant.cellsF, List.cons.injEq, T.int.injEq, T.str.injEq, T.bool.injEq, T.sl.injEq, true_and, and_true] at h
    obtain ⟨h0, h1, h2, h3, h4, h5, h6⟩ := h
    exact Variant.ext_of (h0) (Residual.ext_of (Program.ext_of (rows_inj o _ _ h1)) (Expr.ext_of (h2) (h3) (rows_inj o _ _ h4))) (h5) (h6)
  tot x := G.tot x.residual
  fin x := G.fin x.residual
  fine x h := G.fine _ (by omega)
theorem Variant.cells (o : Bool) (x : Variant) : G.cells o x = [.int .i64 x.policy, .sl o 7 (rows o x.residual.program.rules), .int .i64 x.residual.start.kind, .str x.residual.start.name, .sl o 3 (rows o x.residual.start.args), .int .i64 x.rules, .int .i64 x.steps] := rfl
theorem Variant.tot (x : Variant) : G.tot x = G.tot x.residual := rfl
structure Event where
  node : Int
  action : Int
  other : Int
  nodes : Int
def Event.cellsF (o : Bool) (x : Event) : List T := [.int .i64 x.node, .int .i64 x.action, .int .i64 x.other, .int .i64 x.nodes]
theorem Event.ext_of {x y : Event} (h0 : x.node = y.node) (h1 : x.action = y.action) (h2 : x.other = y.other) (h3 : x.nodes = y.nodes) : x = y := by cases x; cases y; simp_all
instance : G Event where
  sz := 4
  cells := Event.cellsF
  len _ _ := rfl
  view o x := by simp [Event.cellsF, T.viewL, T.view, rows_view]
  nofz x := by simp [Event.cellsF, T.noFzL, T.noFz, rows_nofz]
  inj o x y h := by
    simp only [Event.cellsF, List.cons.injEq, T.int.injEq, T.str.injEq, T.bool.injEq, T.sl.injEq, true_and, and_true] at h
    obtain ⟨h0, h1, h2, h3⟩ := h
    exact Event.ext_of (h0) (h1) (h2) (h3)
  tot x := 0
  fin x := True
  fine _ _ := trivial
theorem Event.cells (o : Bool) (x : Event) : G.cells o x = [.int .i64 x.node, .int .i64 x.action, .int .i64 x.other, .int .i64 x.nodes] := rfl
theorem Event.tot (x : Event) : G.tot x = 0 := rfl
structure Effort where
  status : Int
  steps : Int
  mats : Int
def Effort.cellsF (o : Bool) (x : Effort) : List T := [.int .i64 x.status, .int .i64 x.steps, .int .i64 x.mats]
theorem Effort.ext_of {x y : Effort} (h0 : x.status = y.status) (h1 : x.steps = y.steps) (h2 : x.mats = y.mats) : x = y := by cases x; cases y; simp_all
instance : G Effort where
  sz := 3
  cells := Effort.cellsF
  len _ _ := rfl
  view o x := by simp [Effort.cellsF, T.viewL, T.view, rows_view]
  nofz x := by simp [Effort.cellsF, T.noFzL, T.noFz, rows_nofz]
  inj o x y h := by
    simp only [Effort.cellsF, List.cons.injEq, T.int.injEq, T.str.injEq, T.bool.injEq, T.sl.injEq, true_and, and_true] at h
    obtain ⟨h0, h1, h2⟩ := h
    exact Effort.ext_of (h0) (h1) (h2)
  tot x := 0
  fin x := True
  fine _ _ := trivial
theorem Effort.cells (o : Bool) (x : Effort) : G.cells o x = [.int .i64 x.status, .int .i64 x.steps, .int .i64 x.mats] := rfl
theorem Effort.tot (x : Effort) : G.tot x = 0 := rfl
structure Entry where
  goal : Expr
  uses : List ByteArray
  done : Bool
  residual : Residual
def Entry.cellsF (o : Bool) (x : Entry) : List T := [.int .i64 x.goal.kind, .str x.goal.name, .sl o 3 (rows o x.goal.args), .sl o 1 (rows o x.uses), .bool x.done, .sl o 7 (rows o x.residual.program.rules), .int .i64 x.residual.start.kind, .str x.residual.start.name, .sl o 3 (rows o x.residual.start.args)]
theorem Entry.ext_of {x y : Entry} (h0 : x.goal = y.goal) (h1 : x.uses = y.uses) (h2 : x.done = y.done) (h3 : x.residual = y.residual) : x = y := by cases x; cases y; simp_all
instance : G Entry where
  sz := 9
  cells := Entry.cellsF
  len _ _ := rfl
  view o x := by simp [Entry.cellsF, T.viewL, T.view, rows_view]
  nofz x := by simp [Entry.cellsF, T.noFzL, T.noFz, rows_nofz]
  inj o x y h := by
    simp only [Entry.cellsF, List.cons.injEq, T.int.injEq, T.str.injEq, T.bool.injEq, T.sl.injEq, true_and, and_true] at h
    obtain ⟨h0, h1, h2, h3, h4, h5, h6, h7, h8⟩ := h
    exact Entry.ext_of (Expr.ext_of (h0) (h1) (rows_inj o _ _ h2)) (rows_inj o _ _ h3) (h4) (Residual.ext_of (Program.ext_of (rows_inj o _ _ h5)) (Expr.ext_of (h6) (h7) (rows_inj o _ _ h8)))
  tot x := G.tot x.goal + totL x.uses + G.tot x.residual
  fin x := G.fin x.goal ∧ finL x.uses ∧ G.fin x.residual
  fine x h := ⟨G.fine _ (by omega), totL_fine _ (by omega), G.fine _ (by omega)⟩
theorem Entry.cells (o : Bool) (x : Entry) : G.cells o x = [.int .i64 x.goal.kind, .str x.goal.name, .sl o 3 (rows o x.goal.args), .sl o 1 (rows o x.uses), .bool x.done, .sl o 7 (rows o x.residual.program.rules), .int .i64 x.residual.start.kind, .str x.residual.start.name, .sl o 3 (rows o x.residual.start.args)] := rfl
theorem Entry.tot (x : Entry) : G.tot x = G.tot x.goal + totL x.uses + G.tot x.residual := rfl
structure Base where
  program : Program
  entries : List Entry
def Base.cellsF (o : Bool) (x : Base) : List T := [.sl o 7 (rows o x.program.rules), .sl o 9 (rows o x.entries)]
theorem Base.ext_of {x y : Base} (h0 : x.program = y.program) (h1 : x.entries = y.entries) : x = y := by cases x; cases y; simp_all
instance : G Base where
  sz := 2
  cells := Base.cellsF
  len _ _ := rfl
  view o x := by simp [Base.cellsF, T.viewL, T.view, rows_view]
  nofz x := by simp [Base.cellsF, T.noFzL, T.noFz, rows_nofz]
  inj o x y h := by
    simp only [Base.cellsF, List.cons.injEq, T.int.injEq, T.str.injEq, T.bool.injEq, T.sl.injEq, true_and, and_true] at h
    obtain ⟨h0, h1⟩ := h
    exact Base.ext_of (Program.ext_of (rows_inj o _ _ h0)) (rows_inj o _ _ h1)
  tot x := G.tot x.program + totL x.entries
  fin x := G.fin x.program ∧ finL x.entries
  fine x h := ⟨G.fine _ (by omega), totL_fine _ (by omega)⟩
theorem Base.cells (o : Bool) (x : Base) : G.cells o x = [.sl o 7 (rows o x.program.rules), .sl o 9 (rows o x.entries)] := rfl
theorem Base.tot (x : Base) : G.tot x = G.tot x.program + totL x.entries := rfl
structure Session where
  text : ByteArray
  goal : Expr
  tree : Tree
  residual : Residual
def Session.cellsF (o : Bool) (x : Session) : List T := [.str x.text, .int .i64 x.goal.kind, .str x.goal.name, .sl o 3 (rows o x.goal.args), .sl o 11 (rows o x.tree.nodes), .sl o 7 (rows o x.residual.program.rules), .int .i64 x.residual.start.kind, .str x.residual.start.name, .sl o 3 (rows o x.residual.start.args)]
theorem Session.ext_of {x y : Session} (h0 : x.text = y.text) (h1 : x.goal = y.goal) (h2 : x.tree = y.tree) (h3 : x.residual = y.residual) : x = y := by cases x; cases y; simp_all
instance : G Session where
  sz := 9
  cells := Session.cellsF
  len _ _ := rfl
  view o x := by simp [Session.cellsF, T.viewL, T.view, rows_view]
  nofz x := by simp [Session.cellsF, T.noFzL, T.noFz, rows_nofz]
  inj o x y h := by
    simp only [Session.cellsF, List.cons.injEq, T.int.injEq, T.str.injEq, T.bool.injEq, T.sl.injEq, true_and, and_true] at h
    obtain ⟨h0, h1, h2, h3, h4, h5, h6, h7, h8⟩ := h
    exact Session.ext_of (h0) (Expr.ext_of (h1) (h2) (rows_inj o _ _ h3)) (Tree.ext_of (rows_inj o _ _ h4)) (Residual.ext_of (Program.ext_of (rows_inj o _ _ h5)) (Expr.ext_of (h6) (h7) (rows_inj o _ _ h8)))
  tot x := x.text.size + G.tot x.goal + G.tot x.tree + G.tot x.residual
  fin x := x.text.size ≤ BIG ∧ G.fin x.goal ∧ G.fin x.tree ∧ G.fin x.residual
  fine x h := ⟨big_of (by omega), G.fine _ (by omega), G.fine _ (by omega), G.fine _ (by omega)⟩
theorem Session.cells (o : Bool) (x : Session) : G.cells o x = [.str x.text, .int .i64 x.goal.kind, .str x.goal.name, .sl o 3 (rows o x.goal.args), .sl o 11 (rows o x.tree.nodes), .sl o 7 (rows o x.residual.program.rules), .int .i64 x.residual.start.kind, .str x.residual.start.name, .sl o 3 (rows o x.residual.start.args)] := rfl
theorem Session.tot (x : Session) : G.tot x = x.text.size + G.tot x.goal + G.tot x.tree + G.tot x.residual := rfl
structure Shared where
  status : Int
  value : Expr
  steps : Int
  cels : Int
def Shared.cellsF (o : Bool) (x : Shared) : List T := [.int .i64 x.status, .int .i64 x.value.kind, .str x.value.name, .sl o 3 (rows o x.value.args), .int .i64 x.steps, .int .i64 x.cels]
theorem Shared.ext_of {x y : Shared} (h0 : x.status = y.status) (h1 : x.value = y.value) (h2 : x.steps = y.steps) (h3 : x.cels = y.cels) : x = y := by cases x; cases y; simp_all
instance : G Shared where
  sz := 6
  cells := Shared.cellsF
  len _ _ := rfl
  view o x := by simp [Shared.cellsF, T.viewL, T.view, rows_view]
  nofz x := by simp [Shared.cellsF, T.noFzL, T.noFz, rows_nofz]
  inj o x y h := by
    simp only [Shared.cellsF, List.cons.injEq, T.int.injEq, T.str.injEq, T.bool.injEq, T.sl.injEq, true_and, and_true] at h
    obtain ⟨h0, h1, h2, h3, h4, h5⟩ := h
    exact Shared.ext_of (h0) (Expr.ext_of (h1) (h2) (rows_inj o _ _ h3)) (h4) (h5)
  tot x := G.tot x.value
  fin x := G.fin x.value
  fine x h := G.fine _ (by omega)
theorem Shared.cells (o : Bool) (x : Shared) : G.cells o x = [.int .i64 x.status, .int .i64 x.value.kind, .str x.value.name, .sl o 3 (rows o x.value.args), .int .i64 x.steps, .int .i64 x.cels] := rfl
theorem Shared.tot (x : Shared) : G.tot x = G.tot x.value := rfl
end D
end Vx

namespace Vx
open Go
set_option linter.unusedVariables false
set_option linter.unusedSimpArgs false

/-! ## What a law's arguments are -/
def allFz : Gh := ⟨fun _ => .frozen, fun _ => undef, fun _ => (0, 0, 0), maxLen⟩
/-- The cells of data of a type. -/
def Row (P : Program) : Nat → TypeId → List T → Prop
  | 0, _, _ => False
  | n + 1, t, row => match P.underlying t with
    | some .bool => ∃ b, row = [.bool b]
    | some (.int k) => ∃ x, row = [.int k x]
    | some .string => ∃ s : ByteArray, row = [.str s] ∧ s.size ≤ BIG
    | some (.slice e) => ∃ xs : List (List T), row = [.sl false (P.cellsOf e) xs] ∧ xs.length ≤ BIG ∧ ∀ r ∈ xs, Row P n e r
    | some (.struct fs) => row.length = P.cellsOf t ∧ ∀ f ∈ fs.toList, Row P n f.type ((row.drop f.offset).take (P.cellsOf f.type))
    | _ => False
def tiles (P : Program) : Nat → List Field → Nat → Bool
  | off, [], n => off == n
  | off, f :: r, n => f.offset == off && tiles P (off + P.cellsOf f.type) r n
def supp (P : Program) (S : List TypeId) : Bool := S.all fun t => match P.underlying t with
  | some .bool => true
  | some (.int _) => true
  | some .string => true
  | some (.slice e) => S.contains e && decide (0 < P.cellsOf e)
  | some (.struct fs) => fs.toList.all (fun f => S.contains f.type) && tiles P 0 fs.toList (P.cellsOf t)
  | _ => false

theorem cell_parts {w : World} {a : Addr} {v : Value} (h : w.cell? a = some v) : a.spot = none ∧ ∃ cs el fr, w.heap[a.block]? = some (.cells cs el fr) ∧ cs[a.off]? = some v := by
  unfold World.cell? at h
  split at h
  · rename_i c el fr hh
    split at h
    · cases h
    · rename_i hs
      exact ⟨by simpa using hs, c, el, fr, hh, h⟩
  · cases h
abbrev FRow (w : World) (row : List T) (cs : List Value) : Prop := ∀ (j : Nat) (x : T) (v : Value), row[j]? = some x → cs[j]? = some v → FRep w allFz x v

section
variable {H : Type} {enc : TypeId × Value → H} {P : Program} {w : World} {sp : Nat → Bool} {held : Bool} {S : List TypeId}
/-- The fields of a struct, put together. -/
theorem rows_of_fields {n : Nat} {cs : List Value} : ∀ (fs : List Field) (off : Nat), tiles P off fs cs.length = true → off ≤ cs.length →
    (∀ f ∈ fs, ∃ row : List T, row.length = ((cs.drop f.offset).take (P.cellsOf f.type)).length ∧ Row P n f.type row ∧ FRow w row ((cs.drop f.offset).take (P.cellsOf f.type))) →
    ∃ row : List T, row.length = cs.length - off ∧ (∀ f ∈ fs, off ≤ f.offset ∧ Row P n f.type ((row.drop (f.offset - off)).take (P.cellsOf f.type))) ∧ FRow w row (cs.drop off)
  | [], off, ht, ho, _ => by
    simp only [tiles, beq_iff_eq] at ht
    exact ⟨[], by simp [ht], by simp, fun j x v h _ => by simp at h⟩
  | f :: fs, off, ht, ho, hf => by
    simp only [tiles, Bool.and_eq_true, beq_iff_eq] at ht
    obtain ⟨rfl, ht⟩ := ht
    obtain ⟨r1, l1, p1, q1⟩ := hf f (by simp)
    have hle : f.offset + P.cellsOf f.type ≤ cs.length := by
      clear hf
      have key : ∀ (fs : List Field) (off : Nat), tiles P off fs cs.length = true → off ≤ cs.length := by
        intro fs
        induction fs with
        | nil => intro off h; simp only [tiles, beq_iff_eq] at h; omega
        | cons f fs ih =>
          intro off h
          simp only [tiles, Bool.and_eq_true, beq_iff_eq] at h
          have := ih _ h.2
          omega
      exact key fs _ ht
    obtain ⟨r2, l2, p2, q2⟩ := rows_of_fields fs (f.offset + P.cellsOf f.type) ht hle fun g hg => hf g (by simp [hg])
    have l1' : r1.length = P.cellsOf f.type := by rw [l1]; simp; omega
    refine ⟨r1 ++ r2, by simp [l1', l2]; omega, fun g hg => ?_, fun j x v hx hv => ?_⟩
    · rcases List.mem_cons.1 hg with e | e
      · subst e
        refine ⟨Nat.le_refl _, ?_⟩
        rw [Nat.sub_self, List.drop_zero, ← l1', List.take_left]
        exact p1
      · obtain ⟨h1, h2⟩ := p2 g e
        refine ⟨by omega, ?_⟩
        have : g.offset - f.offset = r1.length + (g.offset - (f.offset + P.cellsOf f.type)) := by omega
        have e2 : ∀ k, List.drop (r1.length + k) (r1 ++ r2) = List.drop k r2 := fun k => by rw [List.drop_append, List.drop_eq_nil_of_le (by omega)]; simp
        rw [this, e2]
        exact h2
    · by_cases hj : j < r1.length
      · rw [List.getElem?_append_left hj] at hx
        refine q1 j x v hx ?_
        rw [List.getElem?_take, if_pos (by omega)]
        exact hv
      · rw [List.getElem?_append_right (by omega)] at hx
        refine q2 _ x v hx ?_
        rw [List.getElem?_drop] at hv ⊢
        rw [← hv]; congr 1; omega

theorem entry (hS : supp P S = true) : ∀ (fuel : Nat) (t : TypeId) (cs : List Value) (x : DataW H × List MemPlace), t ∈ S → DataW.trod enc P w 0 sp held fuel t cs = some x →
    ∃ row : List T, row.length = cs.length ∧ Row P fuel t row ∧ FRow w row cs
  | 0, t, cs, x, _, h => by simp [DataW.trod] at h
  | n + 1, t, cs, x, ht, h => by
    have hS' := hS
    simp only [supp, List.all_eq_true] at hS'
    have hst := hS' t ht
    cases hu : P.underlying t with
    | none => rw [hu] at hst; cases hst
    | some d =>
      rw [hu] at hst
      cases d with
      | bool =>
        obtain ⟨b, rfl, _⟩ := DataW.trod_bool hu h
        refine ⟨[.bool b], rfl, by simp only [Row, hu]; exact ⟨b, rfl⟩, fun j x v h1 h2 => ?_⟩
        cases j with
        | zero => cases h1; cases h2; exact .bool
        | succ j => simp at h1
      | int k =>
        obtain ⟨m, rfl, _⟩ := DataW.trod_int hu h
        refine ⟨[.int k m], rfl, by simp only [Row, hu]; exact ⟨m, rfl⟩, fun j x v h1 h2 => ?_⟩
        cases j with
        | zero => cases h1; cases h2; exact .int
        | succ j => simp at h1
      | string =>
        obtain ⟨s, rfl, _, hs⟩ := DataW.trod_string hu h
        refine ⟨[.str s], rfl, by simp only [Row, hu]; exact ⟨s, rfl, hs⟩, fun j x v h1 h2 => ?_⟩
        cases j with
        | zero => cases h1; cases h2; exact .str hs
        | succ j => simp at h1
      | slice e =>
        simp only [Bool.and_eq_true, List.contains_iff_mem, decide_eq_true_eq] at hst
        obtain ⟨he, hpos⟩ := hst
        rcases DataW.trod_slice hu h with ⟨rfl, _⟩ | ⟨a, len, cap, elems, rest, n', hn, rfl, _, _, hlc, hcm, hel, hget, _⟩
        · refine ⟨[.sl false (P.cellsOf e) []], rfl, by simp only [Row, hu]; exact ⟨[], rfl, by simp, by simp⟩, fun j x v h1 h2 => ?_⟩
          cases j with
          | zero => cases h1; cases h2; exact .fnil
          | succ j => simp at h1
        · cases hn
          have helem : ∀ i, ∃ row : List T, i < len → Row P n e row ∧ row.length = P.cellsOf e ∧ ∀ (c : Nat) (x : T), row[c]? = some x → ∃ v, w.cell? ((a.add (i * P.cellsOf e)).add c) = some v ∧ FRep w allFz x v := by
            intro i
            by_cases hi : i < len
            · have hb := hget i hi
              have hil : i < elems.length := by omega
              rw [List.getElem?_eq_getElem hil] at hb
              obtain ⟨cs', h1, h2⟩ := Option.bind_eq_some_iff.1 hb
              obtain ⟨row, r1, r2, r3⟩ := entry hS n e cs' _ he h2
              obtain ⟨_, hl, hc⟩ := World.cells?_some h1
              refine ⟨row, fun _ => ⟨r2, by rw [r1, hl], fun c x hx => ?_⟩⟩
              have hcl : c < cs'.length := by rw [← r1]; exact lt_of_getElem? hx
              refine ⟨cs'[c], ?_, r3 c x _ hx (List.getElem?_eq_getElem hcl)⟩
              rw [hc c (by omega)]
              exact List.getElem?_eq_getElem hcl
            · exact ⟨[], fun h => absurd h hi⟩
          obtain ⟨ev, hspec⟩ := Classical.axiomOfChoice helem
          let xs : List (List T) := (List.range len).map ev
          have hxl : xs.length = len := by simp [xs]
          have hxi : ∀ i row, xs[i]? = some row → i < len ∧ row = ev i := by
            intro i row hr
            have hil := lt_of_getElem? hr
            rw [hxl] at hil
            simp only [xs, List.getElem?_map, Option.map_eq_some_iff] at hr
            obtain ⟨j, hj, rfl⟩ := hr
            rw [List.getElem?_range hil] at hj
            cases hj
            exact ⟨hil, rfl⟩
          refine ⟨[.sl false (P.cellsOf e) xs], rfl, ?_, fun j x v h1 h2 => ?_⟩
          · simp only [Row, hu]
            refine ⟨xs, rfl, ?_, fun r hr => ?_⟩
            · rw [hxl]
              have : maxLen = 9223372036854775807 := by decide
              show len ≤ 9223372036854775807
              omega
            · obtain ⟨i, hi, rfl⟩ := List.mem_map.1 hr
              exact (hspec i (List.mem_range.1 hi)).1
          · cases j with
            | succ j => simp at h1
            | zero =>
              cases h1; cases h2
              by_cases h0 : len = 0
              · have : xs = [] := List.length_eq_zero_iff.1 (by omega)
                rw [this, h0]
                exact .fnil
              · have hp := hspec 0 (by omega)
                have hlt : 0 < (ev 0).length := by omega
                obtain ⟨v0, hv0, _⟩ := hp.2.2 0 _ (List.getElem?_eq_getElem hlt)
                have hv0' : w.cell? a = some v0 := by simpa [Addr.add] using hv0
                obtain ⟨hsp, cs, el, fr, hh, _⟩ := cell_parts hv0'
                obtain ⟨b, off, spot⟩ := a
                simp only at hsp
                subst hsp
                have hcell : ∀ i c, i < len → c < P.cellsOf e → ∃ v, cs[off + i * P.cellsOf e + c]? = some v ∧ ∀ x, (ev i)[c]? = some x → FRep w allFz x v := by
                  intro i c hi hc
                  obtain ⟨_, h2, h3⟩ := hspec i hi
                  obtain ⟨v, hv, hf⟩ := h3 c _ (List.getElem?_eq_getElem (by omega))
                  rw [addr_add, addr_add, cell_of hh] at hv
                  exact ⟨v, hv, fun x hx => by rw [List.getElem?_eq_getElem (by omega)] at hx; cases hx; exact hf⟩
                have hch : ∀ p : Nat × Nat, ∃ v, p.1 < len → p.2 < P.cellsOf e → cs[off + p.1 * P.cellsOf e + p.2]? = some v ∧ ∀ x, (ev p.1)[p.2]? = some x → FRep w allFz x v := by
                  intro p
                  by_cases h1 : p.1 < len
                  · by_cases h2 : p.2 < P.cellsOf e
                    · obtain ⟨v, hv⟩ := hcell p.1 p.2 h1 h2
                      exact ⟨v, fun _ _ => hv⟩
                    · exact ⟨undef, fun _ h => absurd h h2⟩
                  · exact ⟨undef, fun h => absurd h h1⟩
                obtain ⟨vs, hvs⟩ := Classical.axiomOfChoice hch
                have := FRep.fz (w := w) (g := allFz) (b := b) (off := off) (cap := cap) (sz := P.cellsOf e) (xs := xs) (cs := cs) (el := el) (fr := fr) (fun i c => vs (i, c)) hh rfl (by omega) (by rw [hxl]; show len ≤ maxLen; omega)
                  (fun row hr => by
                    obtain ⟨i, hi, rfl⟩ := List.mem_map.1 hr
                    exact (hspec i (List.mem_range.1 hi)).2.1)
                  (fun i c hi hc => (hvs (i, c) (by omega) hc).1)
                  (fun i row c t hr htc => by
                    obtain ⟨hi, rfl⟩ := hxi i row hr
                    refine (hvs (i, c) hi ?_).2 t htc
                    have := lt_of_getElem? htc
                    rw [(hspec i hi).2.1] at this
                    exact this)
                rw [hxl] at this
                exact this
      | struct fs =>
        simp only [Bool.and_eq_true, List.all_eq_true, List.contains_iff_mem] at hst
        obtain ⟨hmem, htile⟩ := hst
        obtain ⟨xs, n', hn, _, hl, hxl, hf⟩ := DataW.trod_struct hu h
        cases hn
        have hfl : ∀ f ∈ fs.toList, ∃ row : List T, row.length = ((cs.drop f.offset).take (P.cellsOf f.type)).length ∧ Row P n f.type row ∧ FRow w row ((cs.drop f.offset).take (P.cellsOf f.type)) := by
          intro f hfm
          obtain ⟨i, hi, e⟩ := List.mem_iff_getElem.1 hfm
          have hfi : fs[i]? = some f := by rw [← e]; simp at hi; simp [hi]
          have h1 := hf i f hfi
          have hix : i < xs.length := by rw [hxl]; simpa using hi
          rw [List.getElem?_eq_getElem hix] at h1
          exact entry hS n f.type _ _ (hmem f hfm) h1
        obtain ⟨row, l1, p1, q1⟩ := rows_of_fields fs.toList 0 (by rw [hl]; exact htile) (Nat.zero_le _) hfl
        refine ⟨row, by simpa using l1, ?_, by simpa using q1⟩
        simp only [Row, hu]
        refine ⟨by rw [l1, hl]; simp, fun f hfm => ?_⟩
        have := (p1 f hfm).2
        simpa using this
      | _ => cases hst

/-- An argument of one cell, or of a struct, as the machine has it. -/
theorem entry_sv (hS : supp P S = true) {t : TypeId} {v : Value} {d : DataW H} {p : List MemPlace} (ht : t ∈ S) (h : DataW.Trod enc P w 0 sp held t v d p) :
    ∃ (n : Nat) (row : List T), Row P n t row ∧ row.length = v.cells.size ∧ FRow w row v.cells.toList := by
  obtain ⟨fuel, hf⟩ := h
  obtain ⟨row, h1, h2, h3⟩ := entry hS fuel t _ _ ht hf
  exact ⟨fuel, row, h2, by simpa using h1, h3⟩
end

theorem allFz_core {P : Program} {W : World} {fa : List SV} {vals : Array Value} (hs : vals.size = fa.length) (h : ∀ (n : Nat) (x : SV), fa[n]? = some x → SVRep W allFz noDirt (.slot n) 0 x (vals.getD n undef) ∧ x.flat = true ∧ x.roots = []) : Core ⟨P, 0, #[]⟩ (entrySt fa []).sg vals W allFz := by
  refine ⟨fun n => ?_, fun n => ?_, fun n r hr => ?_, fun k c r hr => ?_, fun k kd hk => ?_, fun k es hk => ?_, fun b hb => ?_, Nat.zero_le _⟩
  · show SVRep W _ noDirt (.slot n) 0 ((entrySt fa []).slot n) _
    rw [entry_slot]
    cases hn : fa[n]? with
    | none => exact .c (.t (.fro .top))
    | some z => exact (h n z hn).1
  · show ((entrySt fa []).slot n).flat = true
    rw [entry_slot]
    cases hn : fa[n]? with
    | none => rfl
    | some z => exact (h n z hn).2.1
  · have hr : r ∈ ((entrySt fa []).slot n).roots := hr
    rw [entry_slot] at hr
    cases hn : fa[n]? with
    | none => rw [hn] at hr; simp [SV.roots, C.roots] at hr
    | some z =>
      rw [hn] at hr
      simp only [Option.getD_some] at hr
      rw [(h n z hn).2.2] at hr
      cases hr
  · have hr : r ∈ ((entrySt fa []).cell k c).roots := hr
    simp [St.cell, entrySt, obsOf, visOf, lk, C.roots] at hr
  · have hk : (entrySt fa []).kind k = some kd := hk
    simp [St.kind, entrySt, obsOf, visOf, lk] at hk
  · have hk : (entrySt fa []).map k = some es := hk
    simp [St.map, entrySt, mpsOf, lk] at hk
  · exact absurd hb (Nat.not_lt_zero b)
theorem Move.below {W w' : World} {g' : Gh} (h : Move W allFz w' g') : Go.RowKit.Below W.heap.size W w' :=
  ⟨h.env.1, h.env.2.1, h.env.2.2, h.size, fun k hk => (h.keep k hk (.inl rfl)).2⟩
/-- An argument as the machine has it. -/
inductive ArgRep (W : World) : SV → Value → Prop where
  | c {x v} (h : FRep W allFz x v) : ArgRep W (.c (.t x)) v
  | agg {row cs} (hl : row.length = cs.size) (h : FRow W row cs.toList) : ArgRep W (.agg (row.map C.t)) (.agg cs)
theorem ArgRep.sv {W : World} {x : SV} {v : Value} (h : ArgRep W x v) (n : Nat) : SVRep W allFz noDirt (.slot n) 0 x v ∧ x.flat = true ∧ x.roots = [] := by
  cases h with
  | c h => exact ⟨.c (.t (.fro h)), rfl, rfl⟩
  | @agg row cs hl h =>
    refine ⟨?_, rfl, ?_⟩
    · have := SVRep.agg (w := W) (g := allFz) (d := noDirt) (r := .slot n) (n := 0) (row := row.map C.t) (fun j => cs.getD j undef) (fun j x hj => by
        simp only [List.getElem?_map, Option.map_eq_some_iff] at hj
        obtain ⟨y, hy, rfl⟩ := hj
        have hlt := lt_of_getElem? hy
        refine .t (.fro (h j y _ hy ?_))
        simp [Array.getD_eq_getD_getElem?, show j < cs.size by omega])
      have e : ((List.range (row.map C.t).length).map fun j => cs.getD j undef).toArray = cs := by
        apply Array.ext_getElem?
        intro i
        by_cases hi : i < cs.size
        · simp [hi, hl, Array.getD_eq_getD_getElem?]
        · simp [hi, hl]
      rw [e] at this
      exact this
    · simp only [SV.roots]
      generalize row = l
      clear h hl
      induction l <;> simp_all [C.rootsL, C.roots]
/-- What the walk of a law says: it returns true and changes nothing that was. -/
theorem law_calls {P : Program} {f : Nat} {fa : List SV} (hR : Vx.Returns ⟨P, 0, #[]⟩ f fa [] (.c (.t (.bool true))) []) {W : World} {vals : Array Value} (hs : vals.size = fa.length)
    (h : ∀ (n : Nat) (x : SV), fa[n]? = some x → ArgRep W x (vals.getD n undef)) :
    Calls P f vals W fun e W' => e = .returned (.bool true) ∧ Go.RowKit.Below W.heap.size W W' := by
  obtain ⟨_, _, hrun⟩ := hR
  refine (hrun W allFz vals (by decide) hs (allFz_core hs fun n x hn => (h n x hn).sv n)).mono fun e W' he => ?_
  cases e with
  | returned v =>
    obtain ⟨g', hres, _, hm⟩ := he
    cases hres with | c hres => cases hres with | t hres => cases hres with | fro hres => cases hres; exact ⟨rfl, Move.below hm⟩
  | panicked c => exact he.elim
  | outgrown => exact he.elim
/-- Rows of one type are rows of data. -/
theorem rows_of {α : Type} [G α] {xs : List (List T)} (h : ∀ r ∈ xs, ∃ x : α, r = G.cells false x ∧ G.fin x) (hl : xs.length ≤ BIG) : ∃ l : List α, xs = rows false l ∧ finL l := by
  have : ∃ l : List α, xs = rows false l ∧ ∀ x ∈ l, G.fin x := by
    clear hl
    induction xs with
    | nil => exact ⟨[], rfl, by simp⟩
    | cons r xs ih =>
      obtain ⟨x, rfl, hx⟩ := h r (by simp)
      obtain ⟨l, rfl, hl⟩ := ih fun r hr => h r (by simp [hr])
      exact ⟨x :: l, rfl, fun y hy => by rcases List.mem_cons.1 hy with e | e; · subst e; exact hx
                                         · exact hl y e⟩
  obtain ⟨l, e, hf⟩ := this
  exact ⟨l, e, by rw [e, rows_length] at hl; exact hl, hf⟩

section
variable {P : Program}
theorem row_int {n : Nat} {t : TypeId} {k : IntKind} {row : List T} (hu : P.underlying t = some (.int k)) (h : Row P n t row) : ∃ x, row = [.int k x] := by
  cases n with
  | zero => exact h.elim
  | succ n => simp only [Row, hu] at h; exact h
theorem row_bool {n : Nat} {t : TypeId} {row : List T} (hu : P.underlying t = some .bool) (h : Row P n t row) : ∃ x, row = [.bool x] := by
  cases n with
  | zero => exact h.elim
  | succ n => simp only [Row, hu] at h; exact h
theorem row_str {n : Nat} {t : TypeId} {row : List T} (hu : P.underlying t = some .string) (h : Row P n t row) : ∃ x : ByteArray, row = G.cells false x ∧ G.fin x := by
  cases n with
  | zero => exact h.elim
  | succ n => simp only [Row, hu] at h; exact h
theorem row_int' {n : Nat} {t : TypeId} {row : List T} (hu : P.underlying t = some (.int .i64)) (h : Row P n t row) : ∃ x : Int, row = G.cells false x ∧ G.fin x := by
  obtain ⟨x, rfl⟩ := row_int hu h
  exact ⟨x, rfl, trivial⟩
theorem row_sl {n : Nat} {t e : TypeId} {row : List T} (hu : P.underlying t = some (.slice e)) (h : Row P n t row) : ∃ xs : List (List T), row = [.sl false (P.cellsOf e) xs] ∧ xs.length ≤ BIG ∧ ∀ r ∈ xs, ∃ m, m < n ∧ Row P m e r := by
  cases n with
  | zero => exact h.elim
  | succ n =>
    simp only [Row, hu] at h
    obtain ⟨xs, h1, h2, h3⟩ := h
    exact ⟨xs, h1, h2, fun r hr => ⟨n, Nat.lt_succ_self n, h3 r hr⟩⟩
theorem row_struct {n : Nat} {t : TypeId} {fs : Array Field} {row : List T} (hu : P.underlying t = some (.struct fs)) (h : Row P n t row) : row.length = P.cellsOf t ∧ ∃ m, m < n ∧ ∀ f ∈ fs.toList, Row P m f.type ((row.drop f.offset).take (P.cellsOf f.type)) := by
  cases n with
  | zero => exact h.elim
  | succ n =>
    simp only [Row, hu] at h
    exact ⟨h.1, n, Nat.lt_succ_self n, h.2⟩
theorem okWide_agg {w : World} {r : Reach} {b : Nat} {t : TypeId} {fs : Array Field} {v : Value} (hu : P.underlying t = some (.struct fs)) (h : Value.okWide P w r b t v) : ∃ cs, v = .agg cs := by
  unfold Value.okWide at h
  rw [hu] at h
  obtain ⟨cs, e, _⟩ := h
  exact ⟨cs, e⟩
end
theorem ArgRep.struct {W : World} {v : Value} {cs : Array Value} {row : List T} (hv : v = .agg cs) (hl : row.length = v.cells.size) (h : FRow W row v.cells.toList) : ArgRep W (.agg (row.map C.t)) v := by
  subst hv; exact .agg hl h
theorem ArgRep.one {W : World} {v : Value} {x : T} (hv : v.cells = #[v]) (h : FRow W [x] v.cells.toList) : ArgRep W (.c (.t x)) v := by
  refine .c (h 0 x v rfl ?_)
  rw [hv]; rfl
end Vx

