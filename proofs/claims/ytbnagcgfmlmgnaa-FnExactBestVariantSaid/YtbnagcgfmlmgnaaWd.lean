import Derived.Test.YtbnagcgfmlmgnaaWc
import Derived.WalkKit
import Derived.ProofKit
import Derived.OpenShut
import Derived.ShutString
import Derived.ChangeOld
import Derived.Below
import Derived.SizedLaws
import Derived.Deep.Slices
import Derived.Carry
import Derived.KernelRfl
/- An abstract machine over data for this translation, part 4 of 4: what it reads and writes stands for what the program does. No condition. -/
set_option linter.unusedVariables false
set_option linter.unusedSimpArgs false
namespace Vx
open Go
set_option linter.unusedVariables false

/-! ## The machine once more, with its arithmetic and its lists behind names, so that it can be run on literal code -/
structure Pm where
  ar : BinOp → IntKind → Int → Int → Int
  cm : BinOp → Int → Int → Bool
  sc : BinOp → ByteArray → ByteArray → Bool
  bc : BinOp → Bool → Bool → Bool
  nt : Bool → Bool
  ng : IntKind → Int → Int
  ln : List (List T) → Int
  sz : ByteArray → Int
  tn : Int → Nat
  idx : List (List T) → Int → Option (List T)
  get : List (List T) → Nat → Option (List T)
  set : List (List T) → Nat → List T → List (List T)
  vw : List (List T) → List (List T)
  rep : Int → Int → List T → Option (List (List T))
  nf : Bool → List (List T) → Bool
  dv : BinOp → IntKind → Int → Int → Option Int
  ct : ByteArray → ByteArray → Option ByteArray
  wr : IntKind → Int → Int
  bt : ByteArray → Int → Option Int
  bs : List (List T) → Option ByteArray
  us : ByteArray → Int → Int → Option ByteArray
  ur : List (List T) → Int → Int → Option (List (List T))
  ap : List (List T) → List (List T) → Option (List (List T))
  fl : List (List T) → Bool
  on : List (List T) → Bool
  mi : List (T × T) → T → Int
  mh : List (T × T) → T → Bool
  ms : List (T × T) → T → T → List (T × T)
  mo : KK → IntKind → List (T × T) → Bool
  mx : Int → Int → Int
  mn : Int → Int → Int

def Pm.real : Pm where
  ar op k a b := match op with | .add => k.wrap (a + b) | .sub => k.wrap (a - b) | .mul => k.wrap (a * b) | _ => 0
  cm op a b := match op with
    | .eql => decide (a = b) | .neq => decide (a ≠ b) | .lss => decide (a < b) | .leq => decide (a ≤ b) | .gtr => decide (b < a) | .geq => decide (b ≤ a)
    | _ => false
  sc op a b := match op with
    | .eql => decide (a = b) | .lss => Op.bytesLess a.toList b.toList | .leq => Op.bytesLess a.toList b.toList || a.toList == b.toList
    | .gtr => !(Op.bytesLess a.toList b.toList || a.toList == b.toList) | .geq => !Op.bytesLess a.toList b.toList | _ => decide (a ≠ b)
  bc op a b := match op with | .eql => a == b | _ => a != b
  nt b := !b
  ng k n := k.wrap (-n)
  ln xs := xs.length
  sz s := s.size
  tn i := i.toNat
  idx xs i := if 0 ≤ i then xs[i.toNat]? else none
  get xs i := xs[i]?
  set xs i r := xs.set i r
  vw xs := T.viewR xs
  rep n m r := if 0 ≤ n ∧ n = m ∧ n ≤ (2 ^ 38 : Nat) then some (List.replicate n.toNat r) else none
  nf o xs := (o || xs.isEmpty) && T.noFzR xs
  dv op k a b := if b ≠ 0 then some (match op with | .quo => k.wrap (a.tdiv b) | _ => a.tmod b) else none
  ct a b := if a.size + b.size ≤ LIM then some (a ++ b) else none
  wr k n := k.wrap n
  bt s i := byteAt s i
  bs xs := bytesX xs
  us s l h := cutStr s l h
  ur xs l h := cutRows xs l h
  ap xs ys := if xs.length + ys.length ≤ LIM then some (xs ++ ys) else none
  fl xs := flatR xs
  on xs := oneR xs
  mi es k := mapGet es k
  mh es k := mapHas es k
  ms es k v := mapSet es k v
  mo kk ik es := mapOK kk ik es
  mx a b := if b > a then b else a
  mn a b := if b < a then b else a

section
variable (π : Pm) (ti : TypeId → Option TI)

def isStrX (t : TypeId) : Bool := match ti t with | some { kd := .str, .. } => true | _ => false
def isBoolX (t : TypeId) : Bool := match ti t with | some { kd := .bool, .. } => true | _ => false
def isSlX (t : TypeId) : Bool := match ti t with | some { elem := some _, .. } => true | _ => false
def xbin (xt : TypeId) (op : BinOp) (x y : T) : Option T :=
  match op, x, y with
  | .add, .int k a, .int j b => if k = j then some (.int k (π.ar .add k a b)) else none
  | .sub, .int k a, .int j b => if k = j then some (.int k (π.ar .sub k a b)) else none
  | .mul, .int k a, .int j b => if k = j then some (.int k (π.ar .mul k a b)) else none
  | .eql, .int k a, .int j b => if k = j then some (.bool (π.cm .eql a b)) else none
  | .neq, .int k a, .int j b => if k = j then some (.bool (π.cm .neq a b)) else none
  | .lss, .int k a, .int j b => if k = j then some (.bool (π.cm .lss a b)) else none
  | .leq, .int k a, .int j b => if k = j then some (.bool (π.cm .leq a b)) else none
  | .gtr, .int k a, .int j b => if k = j then some (.bool (π.cm .gtr a b)) else none
  | .geq, .int k a, .int j b => if k = j then some (.bool (π.cm .geq a b)) else none
  | .eql, .str a, .str b => some (.bool (π.sc .eql a b))
  | .neq, .str a, .str b => some (.bool (π.sc .neq a b))
  | .lss, .str a, .str b => some (.bool (π.sc .lss a b))
  | .leq, .str a, .str b => some (.bool (π.sc .leq a b))
  | .gtr, .str a, .str b => some (.bool (π.sc .gtr a b))
  | .geq, .str a, .str b => some (.bool (π.sc .geq a b))
  | .add, .str a, .str b => match π.ct a b with | some c => some (.str c) | none => none
  | .quo, .int k a, .int j b => if k = j then (match π.dv .quo k a b with | some c => some (.int k c) | none => none) else none
  | .rem, .int k a, .int j b => if k = j then (match π.dv .rem k a b with | some c => some (.int k c) | none => none) else none
  | .eql, .nil, .nil => if isSlX ti xt then some (.bool true) else none
  | .neq, .nil, .nil => if isSlX ti xt then some (.bool false) else none
  | .eql, .sl false _ xs, .nil => if isSlX ti xt then some (.may (xs = []) True) else none
  | .neq, .sl false _ xs, .nil => if isSlX ti xt then some (.may True (xs = [])) else none
  | .eql, .bool a, .bool b => if isBoolX ti xt then some (.bool (π.bc .eql a b)) else none
  | .neq, .bool a, .bool b => if isBoolX ti xt then some (.bool (π.bc .neq a b)) else none
  | _, _, _ => none

def xview : T → T
  | .sl _ sz xs => .sl false sz (π.vw xs)
  | t => t
def xnoFz : T → Bool
  | .sl o _ xs => π.nf o xs
  | _ => true
def xnoFzC : C → Bool
  | .t x => xnoFz π x
  | _ => false
def xnoFzSV : SV → Bool
  | .c x => xnoFzC π x
  | .agg row => row.all (xnoFzC π)
  | .tup l => l.all fun x => match x with | .c x => xnoFzC π x | .agg row => row.all (xnoFzC π) | .tup _ => false
def T.xat (t : T) : List Hop → Option T
  | [] => some t
  | h :: p => match T.xat t p with
    | some (.sl true sz xs) => if h.sz = sz then match π.get xs h.i with | some r => r[h.c]? | none => none else none
    | _ => none
def T.xput (t : T) : List Hop → T → T
  | [], u => u
  | h :: p, u => match T.xat π t p with
    | some (.sl true sz xs) => match π.get xs h.i with
      | some r => T.xput t p (.sl true sz (π.set xs h.i (r.set h.c u)))
      | none => T.xput t p (.sl true sz xs)
    | some x => T.xput t p x
    | none => t
/-- Some cells of a row, from the hop on. -/
def T.xcells (t : T) (h : Hop) (p : List Hop) (n : Nat) : Option (List T) :=
  match n with
  | 0 => some []
  | n + 1 => match T.xat π t p with
    | some (.sl true sz xs) => if h.sz = sz then match π.get xs h.i with | some r => if h.c + (n + 1) ≤ r.length then some ((r.drop h.c).take (n + 1)) else none | none => none else none
    | _ => none
def T.xputs (t : T) (h : Hop) (p : List Hop) (ts : List T) : T :=
  match ts with
  | [] => t
  | ts => match T.xat π t p with
    | some (.sl true sz xs) => match π.get xs h.i with
      | some r => T.xput π t p (.sl true sz (π.set xs h.i (r.take h.c ++ ts ++ r.drop (h.c + ts.length))))
      | none => t
    | _ => t
def xderef (a : CA) (f : T → T → Rd Eff) : Rd Eff :=
  place a.root a.c fun t => match T.xat π t a.path with | some x => f t x | none => fail
def isBytesX (t : TypeId) : Bool := match ti t with | some { elem := some e, .. } => (match ti e with | some { kd := .int .u8, size := 1, .. } => true | _ => false) | _ => false
def intX (t : TypeId) : Option IntKind := match ti t with | some { kd := .int k, .. } => some k | _ => none
def xbound (d : Int) : Option T → Option Int
  | none => some d
  | some (.int _ n) => some n
  | _ => none
def xappY (sz : Nat) (sy : SV) (f : List (List T) → List Upd → Rd Eff) : Rd Eff :=
  match sy with
  | .c (.ref ⟨.new m, c, []⟩) => place (.new m) c fun t => match t with
    | .sl true s ys => if s = sz then (match π.on ys with | true => f ys [.hole (.new m) c] | false => fail) else fail
    | _ => fail
  | .c (.ref a) => xderef π a fun _ t => match t with
    | .sl true s ys => if s = sz then (match π.fl ys with | true => f ys [] | false => fail) else fail
    | _ => fail
  | .c (.t (.sl false s ys)) => if s = sz then (match π.on ys with | true => f ys [] | false => fail) else fail
  | .c (.t .nil) => f [] []
  | _ => fail
def xappX (sz : Nat) (sx : SV) (f : List (List T) → List Upd → Rd Eff) : Rd Eff :=
  match sx with
  | .c (.t .nil) => f [] []
  | .c (.ref a) => xderef π a fun t z => match z with
    | .sl true s xs => if s = sz then f xs [.set a.root a.c (T.xput π t a.path .top)] else fail
    | _ => fail
  | _ => fail
def xstepAppend (o : Oper) (sT : TypeId) (x y : Operand) : Rd Eff :=
  match ti sT with
  | some { elem := some e, .. } => match ti e with
    | some ei => if 0 < ei.size ∧ ei.bytes ≤ 256 ∧ ei.zero.length = ei.size then
        rdS x fun sx => rdS y fun sy => xappX π ei.size sx fun xs us => xappY π ei.size sy fun ys vs =>
          match π.ap xs ys with
          | some zs => if o.dst.isSome = true then put o (.c (.t (.sl true ei.size zs))) (us ++ vs) True else fail
          | none => fail
      else fail
    | none => fail
  | _ => fail
def xstepBuildSlice (o : Oper) (t : TypeId) (n : Nat) (parts : List (Nat × Operand)) : Rd Eff :=
  match ti t with
  | some { elem := some e, .. } => match ti e with
    | some ei => takeParts parts fun ps us => match denseRows ei.size 0 ps with
      | some rows => put o (.c (.t (.sl true ei.size rows))) us (rows.length = n ∧ n * ei.size ≤ 2 ^ 24 ∧ 0 < ei.size ∧ ei.zero.length = ei.size)
      | none => fail
    | none => fail
  | _ => fail
def xlen (s : Bool) : T → Option Int
  | .nil => if s then none else some 0
  | .sl _ _ xs => if s then none else some (π.ln xs)
  | .str b => if s then some (π.sz b) else none
  | _ => none

def xstepLoad (o : Oper) (t : TypeId) (p : Operand) : Rd Eff :=
  match ti t with
  | none => fail
  | some i => rdS p fun sv => match sv with
    | .c (.fp row c) =>
      if i.agg then put o (.agg (((row.drop c).take i.size).map C.t)) [] (c + i.size ≤ row.length)
      else match row[c]? with | some x => put o (.c (.t x)) [] (i.size = 1) | none => fail
    | .c (.ptr ⟨.obj k, c, []⟩) => .kind k fun kd => match kd with
      | some (.box m) =>
        if i.agg then readCells k c i.size fun l => put o (.agg l) [] (c + i.size ≤ m)
        else .cell k c fun x _ => put o (.c (x.alias ⟨.obj k, c, []⟩)) [] (c < m ∧ i.size = 1)
      | _ => fail
    | .c (.ptr ⟨r, c, h :: q⟩) => place r c fun t =>
      if i.agg then match T.xcells π t h q i.size with
        | some l => put o (.agg (aliasHop ⟨r, c, q⟩ h l)) [] True
        | none => fail
      else match T.xat π t (h :: q) with
        | some x => put o (.c ((C.t x).alias ⟨r, c, h :: q⟩)) [] (i.size = 1)
        | none => fail
    | _ => fail
def xstepStore (o : Oper) (t : TypeId) (p v : Operand) : Rd Eff :=
  match ti t with
  | none => fail
  | some i => rdS p fun sv => match sv with
    | .c (.ptr ⟨.obj k, c, []⟩) => .kind k fun kd => match kd with
      | some (.box m) => moveS v fun row us => put o undefS (us ++ storeCells' k c row) (row.length = i.size ∧ c + i.size ≤ m ∧ row.all C.one = true)
      | _ => fail
    | .c (.ptr ⟨r, c, h :: q⟩) => takeS v fun ts us => place r c fun t => match T.xcells π t h q ts.length with
        | some _ => storeOK r (ts.any T.isOwn) (put o undefS (us ++ [.set r c (T.xputs π t h q ts)] ++ (if ts.any T.isOwn then dirtP r c else [])) (ts.length = i.size ∧ 0 < i.size ∧ ts.all T.one = true))
        | none => fail
    | _ => fail
def xstepLen (o : Oper) (t : TypeId) (x : Operand) : Rd Eff :=
  if isStrX ti t || isSlX ti t then rdS x fun sv => match sv with
    | .c (.t y) => match xlen π (isStrX ti t) y with | some n => put o (.c (.t (.int .i64 n))) [] True | none => fail
    | .c (.ref a) => xderef π a fun _ y => match y with | .sl true _ xs => if isStrX ti t then fail else put o (.c (.t (.int .i64 (π.ln xs)))) [] True | _ => fail
    | _ => fail
  else fail
def xstepIndex (o : Oper) (t : TypeId) (x i : Operand) : Rd Eff :=
  match ti t with
  | some { elem := some e, .. } => match ti e with
    | some ei => rdS x fun sv => rdT i fun t => match t with
      | .int _ i => match sv with
        | .c (.t (.sl false sz xs)) => if sz = ei.size then match π.idx xs i with | some row => put o (.c (.fp row 0)) [] True | none => fail else fail
        | .c (.ref a) => xderef π a fun _ t => match t with
          | .sl true sz xs => if sz = ei.size then match π.idx xs i with | some _ => put o (.c (.ptr ⟨a.root, a.c, ⟨π.tn i, sz, 0⟩ :: a.path⟩)) [] True | none => fail else fail
          | _ => fail
        | _ => fail
      | _ => fail
    | none => fail
  | _ => fail

def xstepSliceT (o : Oper) (t : TypeId) (x : Operand) (lo hi : Option Operand) : Rd Eff :=
  rdT x fun a => optT lo fun l => optT hi fun h => match a with
    | .nil => match ti t with
      | some { elem := some e, .. } => match ti e with
        | some _ => match xbound 0 l, xbound 0 h with
          | some l, some h => if l = 0 ∧ h = 0 then put o (.c (.t .nil)) [] True else fail
          | _, _ => fail
        | none => fail
      | _ => fail
    | .str s => match xbound 0 l, xbound (π.sz s) h with
      | some l, some h => match π.us s l h with | some u => put o (.c (.t (.str u))) [] (isStrX ti t = true) | none => fail
      | _, _ => fail
    | .sl false sz xs => match ti t with
      | some { elem := some e, .. } => match ti e with
        | some ei => match xbound 0 l, xbound (π.ln xs) h with
          | some l, some h => match π.ur xs l h with | some ys => put o (.c (.t (.sl false sz ys))) [] (sz = ei.size) | none => fail
          | _, _ => fail
        | none => fail
      | _ => fail
    | _ => fail
def xstepSliceR (o : Oper) (t : TypeId) (x : Operand) (lo hi : Option Operand) : Rd Eff :=
  match ti t with
  | some { elem := some e, .. } => match ti e with
    | some ei => rdS x fun sv => optT lo fun l => optT hi fun h => match sv with
      | .c (.ref ⟨r, c, []⟩) => place r c fun y => match y with
        | .sl true sz xs => match xbound 0 l, xbound (π.ln xs) h with
          | some l0, some h0 => match π.ur xs l0 h0 with
            | some ys => if sz = ei.size then (match l with
              | none => put o (.c (.t (.sl true sz ys))) [.hole r c] True
              | some _ => put o (.c (.t (.sl false sz (π.vw ys)))) [.hole r c] True) else fail
            | none => fail
          | _, _ => fail
        | _ => fail
      | _ => fail
    | none => fail
  | _ => fail
def xstep (o : Oper) : Rd Eff :=
  match o.op with
  | .move x => rdS x fun sv => put o sv [] (sv.flat = true)
  | .assign x => rdS x fun sv => match sv with
    | .c x => moveL [x] fun l us => match l with | [y] => put o (.c y) us True | _ => fail
    | .agg row => moveL row fun l us => put o (.agg l) us True
    | .tup _ => fail
  | .nilCheck x => rdS x fun sv => match sv with
    | .c (.ptr ⟨r, c, []⟩) => put o (.c (.ptr ⟨r, c, []⟩)) [] True
    | .c (.ptr ⟨r, c, h :: q⟩) => place r c fun _ => put o (.c (.ptr ⟨r, c, h :: q⟩)) [] True
    | .c (.fp r c) => put o (.c (.fp r c)) [] True
    | _ => fail
  | .binOp op xt x y _ => rdT x fun a => rdT y fun b => match xbin π ti xt op a b with | some t => put o (.c (.t t)) [] True | none => fail
  | .unOp .not _ x => rdT x fun a => match a with | .bool b => put o (.c (.t (.bool (π.nt b)))) [] True | _ => fail
  | .unOp .neg _ x => rdT x fun a => match a with | .int k n => put o (.c (.t (.int k (π.ng k n)))) [] True | _ => fail
  | .fieldAddr s x f => match ti s with
    | some i => match i.fld[f]? with
      | some (off, _ + 1) => rdS x fun sv => match sv with
        | .c (.fp row c) => put o (.c (.fp row (c + off))) [] True
        | .c (.ptr ⟨r, c, []⟩) => put o (.c (.ptr ⟨r, c + off, []⟩)) [] True
        | .c (.ptr ⟨r, c, h :: q⟩) => place r c fun _ => put o (.c (.ptr ⟨r, c, { h with c := h.c + off } :: q⟩)) [] True
        | _ => fail
      | _ => fail
    | none => fail
  | .indexAddr t x i => xstepIndex π ti o t x i
  | .load t p => xstepLoad π ti o t p
  | .store t p v => xstepStore π ti o t p v
  | .alloc t => match o.dst, ti t with
    | some d, some i => .kind (100000 + d) fun kd => .mp (100000 + d) fun m => match kd, m with
      | none, none => put o (.c (.ptr ⟨.obj (100000 + d), 0, []⟩)) [.box (100000 + d) (i.zero.map C.t)] (i.zero.length = i.size ∧ 0 < i.size)
      | _, _ => fail
    | _, _ => fail
  | .box t x => match o.dst, ti t with
    | some d, some i => .kind (100000 + d) fun kd => .mp (100000 + d) fun m => match kd, m with
      | none, none => moveS x fun row us => put o (.c (.ptr ⟨.obj (100000 + d), 0, []⟩)) (us ++ [.box (100000 + d) row]) (i.size = row.length)
      | _, _ => fail
    | _, _ => fail
  | .build t parts => match ti t with
    | some i => rdParts parts.toList fun ps => match buildRow i.fld (i.zero.map C.t) ps with
      | some row => put o (.agg row) [] (i.fld.isEmpty = false ∧ i.fld.all (fun p => decide (0 < p.2)) = true ∧ i.zero.length = i.size ∧ 0 < i.size)
      | none => fail
    | none => fail
  | .makeSlice t l c => match ti t with
    | some { elem := some e, .. } => match ti e with
      | some ei => rdT l fun a => rdT c fun b => match a, b with
        | .int _ n, .int _ m => match π.rep n m ei.zero with
          | some xs => put o (.c (.t (.sl true ei.size xs))) [] (ei.bytes ≤ 256 ∧ 0 < ei.size ∧ ei.zero.length = ei.size)
          | none => fail
        | _, _ => fail
      | none => fail
    | _ => fail
  | .extract x i => rdS x fun sv => match sv with
    | .tup l => match l[i]? with
      | some x => put o x [] (x.row.isSome = true)
      | none => fail
    | _ => fail
  | .call { callee := .builtin .len, args, argTypes } => match args.toList, argTypes.toList with | [x], [t] => xstepLen π ti o t x | _, _ => fail
  | .call { callee := .builtin .append, args, argTypes } => match args.toList, argTypes.toList with | [x, y], [t, u] => if t = u then xstepAppend π ti o t x y else fail | _, _ => fail
  | .buildSlice t n parts => xstepBuildSlice ti o t n parts.toList
  | .index t x i => if isStrX ti t then rdT x fun a => rdT i fun b => match a, b with
      | .str s, .int _ n => match π.bt s n with | some v => put o (.c (.t (.int .u8 v))) [] True | none => fail
      | _, _ => fail
    else fail
  | .convert src dst x => match intX ti dst with
    | some k => rdT x fun a => match a with | .int _ n => put o (.c (.t (.int k (π.wr k n)))) [] ((ti src).isSome = true) | _ => fail
    | none => if isStrX ti dst then (if isBytesX ti src then rdS x fun sv => match sv with
        | .c (.t (.sl false 1 xs)) => match π.bs xs with | some b => put o (.c (.t (.str b))) [] True | none => fail
        | .c (.ref a) => xderef π a fun _ y => match y with
          | .sl true 1 xs => match π.bs xs with | some b => put o (.c (.t (.str b))) [] True | none => fail
          | _ => fail
        | _ => fail
      else if isStrX ti src then rdT x fun a => match a with | .str s => put o (.c (.t (.str s))) [] True | _ => fail else fail) else fail
  | .slice t x lo hi none => rdS x fun sv => match sv with | .c (.ref _) => xstepSliceR π ti o t x lo hi | _ => xstepSliceT π ti o t x lo hi
  | .makeMap _ none => match o.dst with
    | some d => .kind (100000 + d) fun kd => .mp (100000 + d) fun m => match kd, m with
      | none, none => put o (.c (.mp (100000 + d))) [.mp (100000 + d) []] True
      | _, _ => fail
    | none => fail
  | .lookup t m k ok => match ti t with
    | some { mpt := some (kk, ik), .. } => rdS m fun sv => rdT k fun kt => match sv with
      | .c (.mp i) => .mp i fun es => match es with
        | some es => match π.mo kk ik es with
          | true => match kk.ok kt with
            | true => put o (match ok with | true => .tup [.c (.t (.int ik (π.mi es kt))), .c (.t (.bool (π.mh es kt)))] | false => .c (.t (.int ik (π.mi es kt)))) [] True
            | false => fail
          | false => fail
        | none => fail
      | _ => fail
    | _ => fail
  | .mapUpdate t m k v => match ti t with
    | some { mpt := some (kk, ik), .. } => rdS m fun sv => rdT k fun kt => rdT v fun vt => match sv with
      | .c (.mp i) => .mp i fun es => match es with
        | some es => match π.mo kk ik es with
          | true => match mapOK kk ik [(kt, vt)] with
            | true => put o undefS [.mp i (π.ms es kt vt)] True
            | false => fail
          | false => fail
        | none => fail
      | _ => fail
    | _ => fail
  | .call { callee := .builtin .cap, args, argTypes } => match args.toList, argTypes.toList with
    | [x], [t] => rdT x fun a => match a with | .nil => put o (.c (.t (.int .i64 0))) [] (isSlX ti t = true) | _ => fail
    | _, _ => fail
  | .call { callee := .builtin .max, args, .. } => match args.toList with
    | [x, y] => rdT x fun a => rdT y fun b => match a, b with | .int k a, .int _ b => put o (.c (.t (.int k (π.mx a b)))) [] True | _, _ => fail
    | _ => fail
  | .call { callee := .builtin .min, args, .. } => match args.toList with
    | [x, y] => rdT x fun a => rdT y fun b => match a, b with | .int k a, .int _ b => put o (.c (.t (.int k (π.mn a b)))) [] True | _, _ => fail
    | _ => fail
  | .makeFunc (.func g) first caps => if first.isEmpty then capsT caps.toList fun l => put o (.c (.clo g l)) [] True else fail
  | _ => fail

/-! ### Calls: the operands first -/
def xrdP (x : Operand) (s : St) (lg : List Loc) (K : SV → List Loc → Prop) : Prop :=
  match x with
  | .tmp n => K ((s.slot n).alias (rt n (s.isnew n))) (.slot n :: lg)
  | .const v => K (SV.ofV v) lg
  | .func g => K (.c (.clo g [])) lg
  | .global _ => False
def xplaceP (r : Root) (c : Nat) (s : St) (lg : List Loc) (K : T → List Loc → Prop) : Prop :=
  match r with
  | .slot n => if s.isnew n || s.dirty (rt n (s.isnew n)) c then False else match (s.slot n).cellAt c with | some (.t t) => K t (.slot n :: lg) | _ => False
  | .new n => if !s.isnew n || s.dirty (rt n (s.isnew n)) c then False else match (s.slot n).cellAt c with | some (.t t) => K t (.slot n :: lg) | _ => False
  | .obj k => if inrK (s.kind k) c then (if s.dirty (.obj k) c then False else match s.cell k c with | .t t => K t (.cell k c :: .kind k :: lg) | _ => False) else False
  | .ret => False
def xderefP (a : CA) (s : St) (lg : List Loc) (K : T → List Loc → Prop) : Prop :=
  xplaceP a.root a.c s lg fun t lg => match T.xat π t a.path with | some x => K x lg | none => False
mutual
def xpassC (x : C) (s : St) (lg : List Loc) (K : C → Bool → List Loc → Prop) : Prop :=
  match x with
  | .t y => K (.t y) true lg
  | .ref a => xderefP π a s lg fun y lg => if y.isOwn then K (.t (xview π y)) false lg else False
  | .clo g caps => xpassL caps s lg fun l cl lg => K (.clo g l) cl lg
  | .fp row c => K (.fp row c) true lg
  | _ => False
def xpassL (l : List C) (s : St) (lg : List Loc) (K : List C → Bool → List Loc → Prop) : Prop :=
  match l with
  | [] => K [] true lg
  | x :: l => xpassC x s lg fun y c1 lg => xpassL l s lg fun ys c2 lg => K (y :: ys) (c1 && c2) lg
end
def xpassArgs : List Operand → St → List Loc → (List SV → Bool → List Loc → Prop) → Prop
  | [], s, lg, K => K [] true lg
  | x :: r, s, lg, K => xrdP x s lg fun sv lg => match sv with
      | .c y => xpassC π y s lg fun z c1 lg => xpassArgs r s lg fun l c2 lg => K (.c z :: l) (c1 && c2) lg
      | .agg row => xpassL π row s lg fun zs c1 lg => xpassArgs r s lg fun l c2 lg => K (.agg zs :: l) (c1 && c2) lg
      | .tup _ => False
def xlendC (x : C) (j : Nat) (s : St) (lg : List Loc) (K : C → List CA → List Loc → Prop) : Prop :=
  match x with
  | .t y => K (.t y) [] lg
  | .ref a => K (.ref ⟨.obj j, 0, []⟩) [a] lg
  | .fp row c => K (.fp row c) [] lg
  | _ => False
def xlendL : List C → Nat → St → List Loc → (List C → List CA → List Loc → Prop) → Prop
  | [], _, s, lg, K => K [] [] lg
  | x :: l, j, s, lg, K => xlendC x j s lg fun y as lg => xlendL l (j + as.length) s lg fun ys bs lg => K (y :: ys) (as ++ bs) lg
def xlendArgs : List Operand → Nat → St → List Loc → (List SV → List CA → List Loc → Prop) → Prop
  | [], _, s, lg, K => K [] [] lg
  | x :: r, j, s, lg, K => xrdP x s lg fun sv lg => match sv with
    | .c y => xlendC y j s lg fun z as lg => xlendArgs r (j + as.length) s lg fun l bs lg => K (.c z :: l) (as ++ bs) lg
    | .agg row => xlendL row j s lg fun zs as lg => xlendArgs r (j + as.length) s lg fun l bs lg => K (.agg zs :: l) (as ++ bs) lg
    | .tup _ => False
def xlendAt : List CA → St → List Loc → (List (T × T) → List Loc → Prop) → Prop
  | [], s, lg, K => K [] lg
  | a :: as, s, lg, K => xplaceP a.root a.c s lg fun t lg => match T.xat π t a.path with
    | some y => if y.isOwn then xlendAt as s lg fun l lg => K ((t, y) :: l) lg else False
    | none => False
def xlendU : List CA → List (T × T) → List T → Option (List Upd)
  | [], [], [] => some []
  | a :: as, p :: ps, z :: zs => if z.isOwn then (match xlendU as ps zs with | some us => some (.set a.root a.c (T.xput π p.1 a.path z) :: us) | none => none) else none
  | _, _, _ => none
/-- A call that writes into what it is lent. -/
def xcallM (R : Rel) (g : Nat) (o : Oper) (args : List Operand) (s : St) (lg : List Loc) (l : List (List Loc × List Loc)) (K : Kont) : Prop :=
  xlendArgs args 0 s lg fun fa as lg => xlendAt π as s lg fun ps lg => ∃ (res : SV) (zs : List T), (R g fa (ps.map fun p => AR.virt p.2) res (zs.map AR.virt) ∧ res.data = true) ∧
    match xlendU π as ps zs with
    | some us => (put o res us (o.dst.isSome = true ∧ as.length ≤ 1000 ∧ zs.isEmpty = false)).go s lg (fin s l K)
    | none => False
/-- The call is known to return `res`; nothing that is lent comes back in it. -/
def xret (R : Rel) (g : Nat) (fa : List SV) (cl : Bool) (res : SV) : Prop := match cl with
  | true => R g fa [] res [] ∧ res.data = true
  | false => R g fa [] res [] ∧ res.data = true ∧ xnoFzSV π res = true

/-! ### Calls with lent boxes and maps -/
def xnoFzAR : AR → Bool
  | .box row => row.all (xnoFzC π)
  | .virt x => xnoFz π x
  | .mbox row => row.all (xnoFzC π)
  | .map es | .mmap es => es.all fun e => xnoFz π e.1 && xnoFz π e.2
def xpassG (am : List Nat) (bad : List (Root × Nat)) (x : C) (f : C → Bool → Rd Eff) : Rd Eff :=
  match x with
  | .ref a => if bad.contains (a.root, a.c) || lentR am a.root then fail else xderef π a fun _ y => if y.isOwn then f (.t (xview π y)) false else fail
  | x => match mapC am x with | some z => f z true | none => fail
def xpassGL (am : List Nat) (bad : List (Root × Nat)) : List C → (List C → Bool → Rd Eff) → Rd Eff
  | [], f => f [] true
  | x :: l, f => xpassG π am bad x fun z c1 => xpassGL am bad l fun zs c2 => f (z :: zs) (c1 && c2)
def xpassGA (am : List Nat) (mv : List (Nat × CA)) : Nat → List Operand → (List SV → Bool → List Upd → Rd Eff) → Rd Eff
  | _, [], f => f [] true []
  | i, x :: r, f => rdS x fun sv => match lk i mv with
    | some a => match sv with
      | .c (.ref b) => if b = a ∧ lentR am a.root = false then place a.root a.c fun t => match T.xat π t a.path with
          | some y => if y.isOwn then xpassGA am mv (i + 1) r fun l cl us => f (.c (.t y) :: l) cl (.set a.root a.c (T.xput π t a.path .top) :: us) else fail
          | none => fail
        else fail
      | _ => fail
    | none => match sv with
      | .c y => xpassG π am (badOf mv) y fun z c1 => xpassGA am mv (i + 1) r fun l c2 us => f (.c z :: l) (c1 && c2) us
      | .agg row => xpassGL π am (badOf mv) row fun zs c1 => xpassGA am mv (i + 1) r fun l c2 us => f (.agg zs :: l) (c1 && c2) us
      | .tup _ => fail
def xstepCallG (R : Rel) (o : Oper) (g : Nat) (args : List Operand) (caps : List C) (an : Ans) : Rd Eff :=
  if nodup an.am && decide (an.am.length ≤ 1000) then
    xpassGA π an.am an.mv 0 args fun fa cl us => match mapCs an.am caps with
      | some cs => lendG an.am an.am fun rs => backG an.am an.am an.out fun vs md =>
          putG o an.res md (us ++ vs) (R g (fa ++ cs.map SV.c) rs an.res an.out ∧ match cl with | true => True | false => xnoFzSV π an.res = true ∧ an.out.all (xnoFzAR π) = true)
      | none => fail
  else fail
def xAns (an : Ans) : Prop :=
  match an.am, an.mv, an.out with
  | [], [], [] => False
  | [], [], .virt _ :: _ => False
  | _, _, _ => True
abbrev Mu := List Nat × List Nat
def St.xga (s : St) (r : Root) (c : Nat) (a : GA) : St :=
  match s.cellP r c, a with
  | some (.t .nil), .own z => (s.setP r c (.t (.sl true z []))).dirt r c
  | some (.t .nil), .fnil z => s.setP r c (.t (.sl false z []))
  | some (.t (.sl true z xs)), .frz => s.setP r c (.t (.sl false z (π.vw xs)))
  | some (.ref ⟨q, d, []⟩), .take => if (q == r && d == c) || s.dirty q d || s.rtOf q != q then s else match s.cellP q d with
    | some (.t (.sl true z xs)) => (((s.setP q d (.t .top)).setP r c (.t (.sl true z xs))).dirt r c).dirt q d
    | _ => s
  | _, _ => s
def St.xweak (id : Nat) : St → List (Nat × Root × Nat × GA) → St
  | s, [] => s
  | s, (i, r, c, a) :: l => if i = id then (s.xga π (s.rtOf r) c a).xweak id l else s.xweak id l

def xaop1 (mu : Mu) (R : Rel) (o : Oper) (s : St) (lg : List Loc) (l : List (List Loc × List Loc)) (K : Kont) : Prop :=
  match o.op with
  | .pick (.tmp c) a b => match s.slot c with
    | .c (.t (.bool t)) => match t with
      | true => (rdS a fun sv => put o sv [] (sv.row.isSome = true)).go s (.slot c :: lg) (fin s l K)
      | false => (rdS b fun sv => put o sv [] (sv.row.isSome = true)).go s (.slot c :: lg) (fin s l K)
    | _ => False
  | .call { callee := .value (.func g), args, .. } => match mu.1.contains g, mu.2.contains g with
    | true, _ => xcallM π R g o args.toList s lg l K
    | false, true => ∃ an, xAns an ∧ (xstepCallG π R o g args.toList [] an).go s lg (fin s l K)
    | false, false => xpassArgs π args.toList s lg fun fa cl lg => ∃ res, xret π R g fa cl res ∧ (put o res [] True).go s lg (fin s l K)
  | .call { callee := .value (.tmp n), args, .. } => match s.slot n with
    | .c (.clo g caps) => match mu.2.contains g with
      | true => ∃ an, xAns an ∧ (xstepCallG π R o g args.toList caps an).go s (.slot n :: lg) (fin s l K)
      | false => xpassArgs π args.toList s (.slot n :: lg) fun fa c1 lg => xpassL π caps s lg fun cs c2 lg => ∃ res, xret π R g (fa ++ cs.map SV.c) (c1 && c2) res ∧ (put o res [] True).go s lg (fin s l K)
    | _ => False
  | _ => (xstep π ti o).go s lg (fin s l K)
def xaop (mu : Mu) (R : Rel) (ops : List Oper) (o : Oper) (s : St) (l : List (List Loc × List Loc)) (K : Kont) : Prop :=
  match o.guard with
  | none => xaop1 π ti mu R o s [] l K
  | some (j, want) => match (ops[j]?).bind (·.dst) with
    | some d => match s.slot d with
      | .c (.t (.bool b)) => match b with
        | true => (match want with
          | true => xaop1 π ti mu R o s [.slot d] l K
          | false => (skipOp o).go s [.slot d] (fin s l K))
        | false => (match want with
          | true => (skipOp o).go s [.slot d] (fin s l K)
          | false => xaop1 π ti mu R o s [.slot d] l K)
      | .c (.t (.val (.tuple _))) => (skipOp o).go s [.slot d] (fin s l K)
      | _ => False
    | none => False
def xaops (mu : Mu) (R : Rel) (ops : List Oper) : List Oper → St → List (List Loc × List Loc) → Kont → Prop
  | [], s, l, K => K s l
  | o :: r, s, l, K => xaop π ti mu R ops o s l fun s l => xaops mu R ops r s l K
def xawp (mu : Mu) (R : Rel) (keep : Kp) : Code → (AX → St → Prop) → St → Prop
  | .skip, Q, s => Q .normal s
  | .region id ops draw, Q, s => xaops π ti mu R ops.toList ops.toList s [] fun s l => match draw with
    | true => indep ops.toList l = true ∧ Q .normal ((s.xweak π id keep.2).fix keep.1)
    | false => Q .normal ((s.xweak π id keep.2).fix keep.1)
  | .seq a b, Q, s => xawp mu R keep a (fun e s => match e with | .normal => xawp mu R keep b Q s | e => Q e s) s
  | .cond (.tmp c) x y, Q, s => match s.slot c with
    | .c (.t (.bool t)) => match t with
      | true => xawp mu R keep x Q s
      | false => xawp mu R keep y Q s
    | .c (.t (.may p q)) => (p → xawp mu R keep x Q s) ∧ (q → xawp mu R keep y Q s)
    | _ => False
  | .cond (.const (.bool t)) x y, Q, s => match t with
      | true => xawp mu R keep x Q s
      | false => xawp mu R keep y Q s
  | .block id c, Q, s => xawp mu R keep c (fun e s => match e with | .exit j => if j = id then Q .normal s else Q (.exit j) s | e => Q e s) s
  | .loop c, Q, s => aloop (xawp mu R keep c) Q s
  | .exit id, Q, s => Q (.exit id) s
  | .ret, Q, s => Q .ret s
  | _, _, _ => False
end
end Vx

namespace Vx
open Go
set_option linter.unusedVariables false
set_option linter.unusedSimpArgs false

/-! ## What runs so is a walk -/
/-- Whatever `a` does, `b` does. -/
def Le (a b : Rd Eff) : Prop := ∀ (s : St) (lg : List Loc) (K : Eff → List Loc → Prop), (∀ e lg, K e lg → e.ok) → a.go s lg K → b.go s lg K
theorem Le.refl (a : Rd Eff) : Le a a := fun _ _ _ _ h => h
theorem Le.fail (b : Rd Eff) : Le Vx.fail b := fun s lg K hK h => absurd (hK _ _ h) (fun h => h.elim)
theorem Le.slot {n : Nat} {f g : SV → Bool → (Nat → Bool) → Rd Eff} (h : ∀ x y z, Le (f x y z) (g x y z)) : Le (.slot n f) (.slot n g) := fun s lg K hK k => h _ _ _ s _ K hK k
theorem Le.cell {k c : Nat} {f g : C → Bool → Rd Eff} (h : ∀ x y, Le (f x y) (g x y)) : Le (.cell k c f) (.cell k c g) := fun s lg K hK q => h _ _ s _ K hK q
theorem Le.kind {k : Nat} {f g : Option Kind → Rd Eff} (h : ∀ x, Le (f x) (g x)) : Le (.kind k f) (.kind k g) := fun s lg K hK q => h _ s _ K hK q
theorem Le.rdS {x : Operand} {f g : SV → Rd Eff} (h : ∀ sv, Le (f sv) (g sv)) : Le (Vx.rdS x f) (Vx.rdS x g) := by
  cases x with
  | tmp n => exact Le.slot fun _ _ _ => h _
  | const v => exact h _
  | func g => exact h _
  | global g => exact Le.refl _
theorem Le.rdT {x : Operand} {f g : T → Rd Eff} (h : ∀ t, Le (f t) (g t)) : Le (Vx.rdT x f) (Vx.rdT x g) := by
  refine Le.rdS fun sv => ?_
  split
  · exact h _
  · exact Le.refl _
theorem Le.place {r : Root} {c : Nat} {f g : T → Rd Eff} (h : ∀ t, Le (f t) (g t)) : Le (Vx.place r c f) (Vx.place r c g) := by
  cases r with
  | slot n =>
    refine Le.slot fun sv nw d => ?_
    split
    · exact Le.refl _
    · split
      · exact h _
      · exact Le.refl _
  | new n =>
    refine Le.slot fun sv nw d => ?_
    split
    · exact Le.refl _
    · split
      · exact h _
      · exact Le.refl _
  | obj k =>
    refine Le.kind fun kd => ?_
    split
    · refine Le.cell fun x d => ?_
      split
      · exact Le.refl _
      · split
        · exact h _
        · exact Le.refl _
    · exact Le.refl _
  | ret => exact Le.refl _
theorem Le.takeL {row : List C} {f g : List T → List Upd → Rd Eff} (h : ∀ ts us, Le (f ts us) (g ts us)) : Le (Vx.takeL row f) (Vx.takeL row g) := by
  induction row generalizing f g with
  | nil => exact h _ _
  | cons x l ih =>
    simp only [Vx.takeL]
    have key : ∀ t us, Le (Vx.takeL l fun ts vs => f (t :: ts) (us ++ vs)) (Vx.takeL l fun ts vs => g (t :: ts) (us ++ vs)) := fun t us => ih fun ts vs => h _ _
    unfold takeC
    split
    · exact key _ _
    · refine Le.place fun t => ?_
      split
      · exact key _ _
      · exact Le.refl _
    · exact Le.refl _
theorem Le.rdRow {x : Operand} {f g : List C → Rd Eff} (h : ∀ r, Le (f r) (g r)) : Le (Vx.rdRow x f) (Vx.rdRow x g) := by
  refine Le.rdS fun sv => ?_
  split
  · split
    · exact h _
    · exact Le.refl _
  · exact h _
  · exact Le.refl _
theorem Le.takeS {x : Operand} {f g : List T → List Upd → Rd Eff} (h : ∀ ts us, Le (f ts us) (g ts us)) : Le (Vx.takeS x f) (Vx.takeS x g) := Le.rdRow fun _ => Le.takeL h
theorem Le.put {o : Oper} {x : SV} {us : List Upd} {ok ok' : Prop} (h : ok → ok') : Le (put o x us ok) (put o x us ok') := by
  have hf : ∀ us, Le (finish ok us) (finish ok' us) := by
    intro us
    unfold finish
    split
    · intro s lg K hK k
      have : ok := hK _ _ k
      have e : ok = ok' := propext ⟨h, fun _ => this⟩
      rw [← e]; exact k
    · exact Le.refl _
  unfold Vx.put
  split
  · refine Le.slot fun _ nw _ => ?_
    split
    · exact Le.refl _
    · exact hf _
  · exact hf _

section
variable {P : Program} {ti : TypeId → Option TI}
abbrev TiOK (P : Program) (ti : TypeId → Option TI) : Prop := ∀ t i, ti t = some i → tinfo P t = some i
theorem isStrX_eq (h : TiOK P ti) {t : TypeId} {i : TI} (hi : ti t = some i) : isStrX ti t = isStrT P t := by
  unfold isStrX isStrT; rw [hi, h t i hi]; obtain ⟨kd, _, _, _, _, _, _⟩ := i; cases kd <;> rfl
theorem isSlX_eq (h : TiOK P ti) {t : TypeId} {i : TI} (hi : ti t = some i) : isSlX ti t = isSlT P t := by
  unfold isSlX isSlT; rw [hi, h t i hi]; obtain ⟨_, _, _, _, _, _, el⟩ := i; cases el <;> rfl
theorem isBoolX_le (h : TiOK P ti) {t : TypeId} (hi : isBoolX ti t = true) : isBoolT P t = true := by
  unfold isBoolX at hi
  split at hi
  · rename_i e
    unfold isBoolT; rw [h t _ e]
  · cases hi

theorem isBytesX_eq (h : TiOK P ti) {t : TypeId} (hi : isBytesX ti t = true) : isBytesT P t = true := by
  unfold isBytesX at hi
  split at hi
  · rename_i i e mp he
    split at hi
    · rename_i he2
      unfold isBytesT
      rw [h t _ he]
      simp only
      rw [h e _ he2]
      try rfl
    · cases hi
  · cases hi
theorem intX_le (h : TiOK P ti) {t : TypeId} {k : IntKind} (hi : intX ti t = some k) : intT P t = some k := by
  unfold intX at hi
  split at hi
  · rename_i e
    unfold intT
    rw [h t _ e]
    exact hi
  · cases hi
theorem isStrX_le (h : TiOK P ti) {t : TypeId} (hi : isStrX ti t = true) : isStrT P t = true := by
  unfold isStrX at hi
  split at hi
  · rename_i e
    unfold isStrT; rw [h t _ e]
  · cases hi
theorem isStr_int (h : TiOK P ti) {t : TypeId} (hi : isStrX ti t = true) : intT P t = none := by
  unfold isStrX at hi
  split at hi
  · rename_i e
    unfold intT; rw [h t _ e]
  · cases hi
theorem isStr_bytes {t : TypeId} (hi : isStrT P t = true) : isBytesT P t = false := by
  have hu := isStrT_un hi
  cases hb : isBytesT P t with
  | false => rfl
  | true =>
    obtain ⟨e, h1, _⟩ := isBytesT_un hb
    rw [hu] at h1
    cases h1
theorem isSlX_le (h : TiOK P ti) {t : TypeId} (hi : isSlX ti t = true) : isSlT P t = true := by
  unfold isSlX at hi
  split at hi
  · rename_i e
    unfold isSlT; rw [h t _ e]
  · cases hi
theorem real_ct (a b : ByteArray) : Pm.real.ct a b = if a.size + b.size ≤ LIM then some (a ++ b) else none := rfl
theorem real_quo (k : IntKind) (a b : Int) : Pm.real.dv .quo k a b = if b ≠ 0 then some (k.wrap (a.tdiv b)) else none := rfl
theorem real_rem (k : IntKind) (a b : Int) : Pm.real.dv .rem k a b = if b ≠ 0 then some (a.tmod b) else none := rfl
theorem xbin_le (h : TiOK P ti) {xt : TypeId} {op : BinOp} {x y t : T} (hx : xbin Pm.real ti xt op x y = some t) : binT P xt op x y = some t := by
  unfold xbin at hx
  unfold binT
  split at hx
  all_goals first
    | exact hx
    | (cases hx; done)
    | (try simp only at hx ⊢
       split at hx
       · rename_i hc
         rw [real_ct] at hc
         split at hc
         · rename_i hl; cases hc; rw [if_pos hl]; exact hx
         · cases hc
       · cases hx)
    | (try simp only at hx ⊢
       split at hx
       · rename_i hk
         split at hx
         · rename_i hc
           rw [real_quo] at hc
           split at hc
           · rename_i hb; cases hc; rw [if_pos ⟨hk, hb⟩]; exact hx
           · cases hc
         · cases hx
       · cases hx)
    | (try simp only at hx ⊢
       split at hx
       · rename_i hk
         split at hx
         · rename_i hc
           rw [real_rem] at hc
           split at hc
           · rename_i hb; cases hc; rw [if_pos ⟨hk, hb⟩]; exact hx
           · cases hc
         · cases hx
       · cases hx)
    | (try simp only at hx ⊢
       split at hx
       · rename_i hb
         simp only [isSlX_le h hb, if_true]
         exact hx
       · cases hx)
    | (split at hx
       · rename_i hb
         simp only [isBoolX_le h hb, if_true]
         exact hx
       · cases hx)
theorem xat_eq (t : T) : ∀ p : List Hop, T.xat Pm.real t p = t.at p
  | [] => rfl
  | h :: p => by
    simp only [T.xat, T.at, xat_eq t p]
    cases hx : t.at p with
    | none => rfl
    | some x =>
      simp only [Option.bind_some]
      cases x with
      | sl o sz xs =>
        cases o with
        | true =>
          simp only [T.sub]
          split
          · show (match xs[h.i]? with | some r => r[h.c]? | none => none) = _
            cases xs[h.i]? <;> rfl
          · rfl
        | false => rfl
      | _ => rfl
theorem xput_eq (t : T) : ∀ (p : List Hop) (u : T), T.xput Pm.real t p u = t.put p u
  | [], u => rfl
  | h :: p, u => by
    simp only [T.xput, T.put, xat_eq t p]
    cases hx : t.at p with
    | none => rfl
    | some x =>
      cases x with
      | sl o sz xs =>
        cases o with
        | true =>
          simp only [T.setSub]
          show (match xs[h.i]? with | some r => T.xput Pm.real t p (.sl true sz (xs.set h.i (r.set h.c u))) | none => T.xput Pm.real t p (.sl true sz xs)) = _
          cases hr : xs[h.i]? with
          | none =>
            have : xs.length ≤ h.i := by
              rcases Nat.lt_or_ge h.i xs.length with k | k
              · rw [List.getElem?_eq_getElem k] at hr; cases hr
              · exact k
            simp only [xput_eq t p, List.set_eq_of_length_le this]
          | some r => simp only [xput_eq t p, List.getD, hr, Option.getD_some]
        | false => simp only [T.setSub, xput_eq t p]
      | _ => simp only [T.setSub, xput_eq t p]
theorem atCells_eq {t : T} {p : List Hop} {sz : Nat} {xs : List (List T)} {r : List T} : ∀ (n : Nat) (h : Hop), t.at p = some (.sl true sz xs) → h.sz = sz → xs[h.i]? = some r → h.c + n ≤ r.length →
    atCells t h p n = some ((r.drop h.c).take n)
  | 0, h, _, _, _, _ => by simp [atCells]
  | n + 1, h, h1, h2, h3, h4 => by
    have hc : h.c < r.length := by omega
    subst h2
    simp only [atCells, T.at, h1, Option.bind_some, T.sub, if_true, h3, List.getElem?_eq_getElem hc]
    rw [atCells_eq n { h with c := h.c + 1 } h1 rfl h3 (by simp only; omega)]
    simp only [Option.map_some]
    rw [List.drop_eq_getElem_cons hc, List.take_succ_cons]
theorem xcells_le {t : T} {h : Hop} {p : List Hop} {n : Nat} {l : List T} (hx : T.xcells Pm.real t h p n = some l) : atCells t h p n = some l := by
  cases n with
  | zero => simpa [T.xcells, atCells] using hx
  | succ n =>
    simp only [T.xcells, xat_eq] at hx
    split at hx
    · rename_i sz xs hat
      split at hx
      · rename_i hsz
        have hx : (match xs[h.i]? with | some r => if h.c + (n + 1) ≤ r.length then some ((r.drop h.c).take (n + 1)) else none | none => none) = some l := hx
        split at hx
        · rename_i r hr
          split at hx
          · rename_i hl
            rw [atCells_eq (n + 1) h hat hsz hr hl]
            exact hx
          · cases hx
        · cases hx
      · cases hx
    · cases hx
theorem xputs_eq {t : T} {h : Hop} {p : List Hop} {ts l : List T} (hx : T.xcells Pm.real t h p ts.length = some l) : T.xputs Pm.real t h p ts = putCells t h p ts := by
  cases ts with
  | nil => rfl
  | cons x ts =>
    simp only [T.xcells, xat_eq, List.length_cons] at hx
    split at hx
    · rename_i sz xs hat
      split at hx
      · rename_i hsz
        subst hsz
        have hx : (match xs[h.i]? with | some r => if h.c + (ts.length + 1) ≤ r.length then some ((r.drop h.c).take (ts.length + 1)) else none | none => none) = some l := hx
        split at hx
        · rename_i r hr
          split at hx
          · rename_i hl
            rw [putCells_eq (x :: ts) t _ h hat ⟨xs, r, rfl, hr, by simpa using hl⟩, setCells_eq (x :: ts) h xs r hr (by simpa using hl)]
            simp only [T.xputs, xat_eq, hat]
            show (match xs[h.i]? with | some r => T.xput Pm.real t p (.sl true h.sz (xs.set h.i (r.take h.c ++ (x :: ts) ++ r.drop (h.c + (x :: ts).length)))) | none => t) = _
            rw [hr]
            simp only [xput_eq]
          · cases hx
        · cases hx
      · cases hx
    · cases hx
theorem xderef_le {a : CA} {f g : T → T → Rd Eff} (h : ∀ t x, Le (f t x) (g t x)) : Le (xderef Pm.real a f) (deref a g) := by
  refine Le.place fun t => ?_
  rw [xat_eq]
  cases t.at a.path with
  | none => exact Le.refl _
  | some x => exact h _ _
theorem xlen_le {b : Bool} {t : T} {n : Int} (h : xlen Pm.real b t = some n) : ∃ m : Nat, lenT b t = some m ∧ (m : Int) = n := by
  cases t with
  | nil => cases b <;> simp [xlen] at h; exact ⟨0, rfl, by omega⟩
  | sl o sz xs =>
    cases b with
    | true => simp [xlen] at h
    | false =>
      have h : some ((xs.length : Int)) = some n := h
      cases h
      exact ⟨_, rfl, rfl⟩
  | str s =>
    cases b with
    | false => simp [xlen] at h
    | true =>
      have h : some ((s.size : Int)) = some n := h
      cases h
      exact ⟨_, rfl, rfl⟩
  | _ => simp [xlen] at h

theorem xview_eq (t : T) : xview Pm.real t = t.view := by
  cases t with
  | sl o sz xs => rfl
  | _ => rfl
theorem xnoFz_eq (t : T) : xnoFz Pm.real t = t.noFz := by
  cases t with
  | sl o sz xs => rfl
  | _ => rfl
theorem xnoFzC_eq : xnoFzC Pm.real = C.noFz := by
  funext x
  cases x with
  | t x => exact xnoFz_eq x
  | _ => rfl
theorem xnoFzSV_eq (sv : SV) : xnoFzSV Pm.real sv = sv.noFz := by
  cases sv with
  | c x => simp only [xnoFzSV, SV.noFz, xnoFzC_eq]
  | agg row => simp only [xnoFzSV, SV.noFz, xnoFzC_eq]
  | tup l =>
    simp only [xnoFzSV, SV.noFz, xnoFzC_eq]
    congr 1

theorem xrdP_le {x : Operand} {s : St} {lg : List Loc} {K : SV → List Loc → Prop} {f : SV → Rd Eff} {K' : Eff → List Loc → Prop} (hx : xrdP x s lg K) (h : ∀ sv lg, K sv lg → (f sv).go s lg K') : (rdS x f).go s lg K' := by
  cases x with
  | tmp n => exact h _ _ hx
  | const v => exact h _ _ hx
  | func g => exact h _ _ hx
  | global g => exact hx.elim
theorem xplaceP_le {r : Root} {c : Nat} {s : St} {lg : List Loc} {K : T → List Loc → Prop} {f : T → Rd Eff} {K' : Eff → List Loc → Prop} (hx : xplaceP r c s lg K) (h : ∀ t lg, K t lg → (f t).go s lg K') : (place r c f).go s lg K' := by
  cases r with
  | slot n =>
    simp only [xplaceP] at hx
    simp only [place, Rd.go]
    split at hx
    · exact hx.elim
    · rename_i e
      rw [if_neg e]
      split at hx
      · rename_i e; simp only [e]; exact h _ _ hx
      · exact hx.elim
  | new n =>
    simp only [xplaceP] at hx
    simp only [place, Rd.go]
    split at hx
    · exact hx.elim
    · rename_i e
      rw [if_neg e]
      split at hx
      · rename_i e; simp only [e]; exact h _ _ hx
      · exact hx.elim
  | obj k =>
    simp only [xplaceP] at hx
    simp only [place, Rd.go]
    split at hx
    · rename_i e
      rw [if_pos e]
      simp only [Rd.go]
      split at hx
      · exact hx.elim
      · rename_i e
        rw [if_neg e]
        split at hx
        · rename_i e; simp only [e]; exact h _ _ hx
        · exact hx.elim
    · exact hx.elim
  | ret => exact hx.elim
theorem xderefP_le {a : CA} {s : St} {lg : List Loc} {K : T → List Loc → Prop} {f : T → T → Rd Eff} {K' : Eff → List Loc → Prop} (hx : xderefP Pm.real a s lg K) (h : ∀ t x lg, K x lg → (f t x).go s lg K') : (deref a f).go s lg K' := by
  refine xplaceP_le hx fun t lg hq => ?_
  rw [xat_eq] at hq
  split at hq
  · rename_i e; simp only [e]; exact h _ _ _ hq
  · exact hq.elim
mutual
theorem xpassC_le : ∀ (x : C) {s : St} {lg : List Loc} {K : C → Bool → List Loc → Prop} {f : C → Prop → Bool → Rd Eff} {K' : Eff → List Loc → Prop}, xpassC Pm.real x s lg K → (∀ z p cl lg, p → K z cl lg → (f z p cl).go s lg K') → (passC [] x f).go s lg K'
  | .t y, s, lg, K, f, K', hx, h => h _ _ _ _ trivial hx
  | .ref a, s, lg, K, f, K', hx, h => by
    simp only [xpassC] at hx
    simp only [passC, List.findIdx?_nil, List.any_nil, Bool.false_eq_true, if_false]
    refine xderefP_le hx fun t x lg hq => ?_
    split at hq
    · rename_i e
      rw [if_pos e]
      rw [xview_eq] at hq
      exact h _ _ _ _ trivial hq
    · exact hq.elim
  | .ptr a, s, lg, K, f, K', hx, h => by simp only [xpassC] at hx
  | .fp row c, s, lg, K, f, K', hx, h => by
    simp only [xpassC] at hx
    simp only [passC]
    exact h _ _ _ _ trivial hx
  | .clo k caps, s, lg, K, f, K', hx, h => by
    simp only [xpassC] at hx
    simp only [passC]
    exact xpassL_le caps hx fun zs p cl lg hp hq => h _ _ _ _ hp hq
  | .mp k, s, lg, K, f, K', hx, h => by simp only [xpassC] at hx
theorem xpassL_le : ∀ (l : List C) {s : St} {lg : List Loc} {K : List C → Bool → List Loc → Prop} {f : List C → Prop → Bool → Rd Eff} {K' : Eff → List Loc → Prop}, xpassL Pm.real l s lg K → (∀ z p cl lg, p → K z cl lg → (f z p cl).go s lg K') → (passL [] l f).go s lg K'
  | [], s, lg, K, f, K', hx, h => by
    simp only [xpassL] at hx
    simp only [passL]
    exact h _ _ _ _ trivial hx
  | x :: l, s, lg, K, f, K', hx, h => by
    simp only [xpassL] at hx
    simp only [passL]
    exact xpassC_le x hx fun z p cl lg hp hq => xpassL_le l hq fun zs p' cl' lg hp' hq' => h _ _ _ _ ⟨hp, hp'⟩ hq'
end
theorem xpassArgs_le : ∀ (l : List Operand) {s : St} {lg : List Loc} {K : List SV → Bool → List Loc → Prop} {f : List SV → Prop → Bool → Rd Eff} {K' : Eff → List Loc → Prop}, xpassArgs Pm.real l s lg K → (∀ z p cl lg, p → K z cl lg → (f z p cl).go s lg K') → (passArgs [] l f).go s lg K'
  | [], s, lg, K, f, K', hx, h => h _ _ _ _ trivial hx
  | x :: l, s, lg, K, f, K', hx, h => by
    simp only [xpassArgs] at hx
    simp only [passArgs]
    refine xrdP_le hx fun sv lg hq => ?_
    cases sv with
    | c y => exact xpassC_le y hq fun z p cl lg hp hq => xpassArgs_le l hq fun zs p' cl' lg hp' hq' => h _ _ _ _ ⟨hp, hp'⟩ hq'
    | agg row => exact xpassL_le row hq fun z p cl lg hp hq => xpassArgs_le l hq fun zs p' cl' lg hp' hq' => h _ _ _ _ ⟨hp, hp'⟩ hq'
    | tup l => exact hq.elim
theorem Rd.go_ok {f : Rd Eff} {s : St} {lg : List Loc} {K : Eff → List Loc → Prop} (h : f.go s lg K) : ∃ e lg', K e lg' := by
  rw [Rd.go_iff] at h; exact ⟨_, _, h⟩
theorem xstepLoad_le (h : TiOK P ti) {o : Oper} {t : TypeId} {p : Operand} : Le (xstepLoad Pm.real ti o t p) (stepLoad P o t p) := by
  unfold xstepLoad stepLoad
  cases hi : ti t with
  | none => exact Le.fail _
  | some i =>
    rw [h t i hi]
    refine Le.rdS fun sv => ?_
    split
    · exact Le.refl _
    · exact Le.refl _
    · simp only
      refine Le.place fun t => ?_
      split
      · split
        · rename_i hl
          rw [xcells_le hl]
          exact Le.refl _
        · exact Le.fail _
      · rw [xat_eq]; exact Le.refl _
    · exact Le.fail _
theorem xstepStore_le (h : TiOK P ti) {o : Oper} {t : TypeId} {p v : Operand} : Le (xstepStore Pm.real ti o t p v) (stepStore P o t p v) := by
  unfold xstepStore stepStore
  cases hi : ti t with
  | none => exact Le.fail _
  | some i =>
    rw [h t i hi]
    refine Le.rdS fun sv => ?_
    split
    · exact Le.refl _
    · simp only
      refine Le.takeS fun ts us => Le.place fun t => ?_
      split
      · rename_i hl
        rw [xcells_le hl, xputs_eq hl]
        exact Le.refl _
      · exact Le.fail _
    · exact Le.fail _
theorem xstepLen_le (h : TiOK P ti) {o : Oper} {t : TypeId} {x : Operand} : Le (xstepLen Pm.real ti o t x) (stepLen P o t x) := by
  unfold xstepLen stepLen
  cases hi : ti t with
  | none =>
    have e1 : isStrX ti t = false := by unfold isStrX; rw [hi]
    have e2 : isSlX ti t = false := by unfold isSlX; rw [hi]
    rw [e1, e2]
    exact Le.fail _
  | some i =>
    rw [isStrX_eq h hi, isSlX_eq h hi]
    split
    · refine Le.rdS fun sv => ?_
      split
      · split
        · rename_i n hn
          obtain ⟨m, h1, h2⟩ := xlen_le hn
          simp only
          rw [h1, ← h2]
          exact Le.refl _
        · exact Le.fail _
      · exact xderef_le fun t x => Le.refl _
      · exact Le.fail _
    · exact Le.refl _
theorem xstepIndex_le (h : TiOK P ti) {o : Oper} {t : TypeId} {x i : Operand} : Le (xstepIndex Pm.real ti o t x i) (stepIndex P o t x i) := by
  unfold xstepIndex stepIndex
  split
  · rename_i e mp hi
    rw [h t _ hi]
    simp only
    split
    · rename_i ei hei
      rw [h e _ hei]
      refine Le.rdS fun sv => Le.rdT fun t => ?_
      cases t with
      | int k n =>
        cases sv with
        | c y =>
          cases y with
          | t z =>
            cases z with
            | sl ow sz xs =>
              cases ow with
              | true => exact Le.fail _
              | false =>
                simp only
                split
                · show Le (match (if 0 ≤ n then xs[n.toNat]? else none) with | some row => put o (.c (.fp row 0)) [] True | none => fail) _
                  split
                  · rename_i row hr
                    split at hr
                    · rename_i h0
                      rw [hr]
                      exact Le.put fun _ => h0
                    · cases hr
                  · exact Le.fail _
                · exact Le.fail _
            | _ => exact Le.fail _
          | ref a =>
            refine xderef_le fun t x => ?_
            split
            · rename_i sz xs
              simp only
              split
              · show Le (match (if 0 ≤ n then xs[n.toNat]? else none) with | some row => put o (.c (.ptr ⟨a.root, a.c, ⟨n.toNat, sz, 0⟩ :: a.path⟩)) [] True | none => fail) _
                split
                · rename_i row hr
                  split at hr
                  · rename_i h0
                    rw [hr]
                    exact Le.put fun _ => h0
                  · cases hr
                · exact Le.fail _
              · exact Le.fail _
            · exact Le.fail _
          | _ => exact Le.fail _
        | _ => exact Le.fail _
      | _ => exact Le.fail _
    · exact Le.fail _
  · exact Le.fail _
theorem xbound_eq {n : Nat} {d : Int} (hd : d = n) (t : Option T) : xbound d t = boundT n t := by
  subst hd
  cases t with
  | none => rfl
  | some t => cases t <;> rfl
theorem xappX_le {sz : Nat} {sx : SV} {f g : List (List T) → List Upd → Rd Eff} (h : ∀ xs us, Le (f xs us) (g xs us)) : Le (xappX Pm.real sz sx f) (appX sz sx g) := by
  cases sx with
  | c x =>
    cases x with
    | t tt =>
      cases tt with
      | nil => exact h _ _
      | _ => exact Le.fail _
    | ref a =>
      refine xderef_le fun t z => ?_
      cases z with
      | sl ow s xs =>
        cases ow with
        | true =>
          by_cases hs : s = sz
          · simp only [if_pos hs, xput_eq]; exact h _ _
          · simp only [if_neg hs]; exact Le.refl _
        | false => exact Le.fail _
      | _ => exact Le.fail _
    | _ => exact Le.fail _
  | _ => exact Le.fail _
theorem xappY_le {sz : Nat} {sy : SV} {f g : List (List T) → List Upd → Rd Eff} (h : ∀ xs us, Le (f xs us) (g xs us)) : Le (xappY Pm.real sz sy f) (appY sz sy g) := by
  have viaRef : ∀ a : CA, Le (xderef Pm.real a fun _ t => match t with | .sl true s ys => if s = sz then (match Pm.real.fl ys with | true => f ys [] | false => fail) else fail | _ => fail)
      (deref a fun _ t => match t with | .sl true s ys => if s = sz ∧ flatR ys = true then g ys [] else fail | _ => fail) := by
    intro a
    refine xderef_le fun _ t => ?_
    cases t with
    | sl ow s ys =>
      cases ow with
      | true =>
        by_cases hs : s = sz
        · simp only [if_pos hs]
          show Le (match flatR ys with | true => f ys [] | false => fail) _
          cases ho : flatR ys with
          | true => simp only [hs, and_self, if_true]; exact h _ _
          | false => exact Le.fail _
        · simp only [if_neg hs]; exact Le.fail _
      | false => exact Le.fail _
    | _ => exact Le.fail _
  cases sy with
  | c x =>
    cases x with
    | t tt =>
      cases tt with
      | nil => exact h _ _
      | sl ow s ys =>
        cases ow with
        | true => exact Le.fail _
        | false =>
          simp only [xappY, appY]
          by_cases hs : s = sz
          · simp only [if_pos hs]
            show Le (match oneR ys with | true => f ys [] | false => fail) _
            cases ho : oneR ys with
            | true => simp only [hs, and_self, if_true]; exact h _ _
            | false => exact Le.fail _
          · simp only [if_neg hs]; exact Le.fail _
      | _ => exact Le.fail _
    | ref a =>
      obtain ⟨r, c, p⟩ := a
      cases r with
      | new m =>
        cases p with
        | nil =>
          simp only [xappY, appY]
          refine Le.place fun t => ?_
          cases t with
          | sl ow s ys =>
            cases ow with
            | true =>
              by_cases hs : s = sz
              · simp only [if_pos hs]
                show Le (match oneR ys with | true => f ys [.hole (.new m) c] | false => fail) _
                cases ho : oneR ys with
                | true => simp only [hs, and_self, if_true]; exact h _ _
                | false => exact Le.fail _
              · simp only [if_neg hs]; exact Le.fail _
            | false => exact Le.fail _
          | _ => exact Le.fail _
        | cons hh q => exact viaRef _
      | slot n => exact viaRef _
      | obj k => exact viaRef _
      | ret => exact viaRef _
    | _ => exact Le.fail _
  | _ => exact Le.fail _
theorem xstepAppend_le (h : TiOK P ti) {o : Oper} {t : TypeId} {x y : Operand} : Le (xstepAppend Pm.real ti o t x y) (stepAppend P o t x y) := by
  unfold xstepAppend stepAppend
  split
  · rename_i e mp hi
    rw [h t _ hi]
    simp only
    split
    · rename_i ei hei
      rw [h e _ hei]
      simp only
      split
      · refine Le.rdS fun sx => Le.rdS fun sy => xappX_le fun xs us => xappY_le fun ys vs => ?_
        show Le (match (if xs.length + ys.length ≤ LIM then some (xs ++ ys) else none) with | some zs => if o.dst.isSome = true then put o (.c (.t (.sl true ei.size zs))) (us ++ vs) True else fail | none => fail) _
        split
        · rename_i zs hz
          split at hz
          · rename_i hl
            cases hz
            split
            · rename_i hd
              rw [if_pos ⟨hl, hd⟩]; exact Le.refl _
            · exact Le.fail _
          · cases hz
        · exact Le.fail _
      · exact Le.fail _
    · exact Le.fail _
  · exact Le.fail _
theorem xstepBuildSlice_le (h : TiOK P ti) {o : Oper} {t : TypeId} {n : Nat} {parts : List (Nat × Operand)} : Le (xstepBuildSlice ti o t n parts) (stepBuildSlice P o t n parts) := by
  unfold xstepBuildSlice stepBuildSlice
  split
  · rename_i e mp hi
    rw [h t _ hi]
    simp only
    split
    · rename_i ei hei
      rw [h e _ hei]
      exact Le.refl _
    · exact Le.fail _
  · exact Le.fail _
theorem Le.optT {x : Option Operand} {f g : Option T → Rd Eff} (h : ∀ t, Le (f t) (g t)) : Le (Vx.optT x f) (Vx.optT x g) := by
  cases x with
  | none => exact h _
  | some x => exact Le.rdT fun t => h _
theorem Le.mp {k : Nat} {f g : Option (List (T × T)) → Rd Eff} (h : ∀ x, Le (f x) (g x)) : Le (.mp k f) (.mp k g) := fun s lg K hK q => h _ s _ K hK q
theorem tinfo_mpt {P : Program} {t : TypeId} {i : TI} (h : tinfo P t = some i) : mapT P t = i.mpt := by
  unfold tinfo at h
  split at h
  · cases h; rfl
  · cases h
theorem xstepSliceT_le (h : TiOK P ti) {o : Oper} {t : TypeId} {x : Operand} {lo hi : Option Operand} : Le (xstepSliceT Pm.real ti o t x lo hi) (stepSliceT P o t x lo hi) := by
  unfold xstepSliceT stepSliceT
  refine Le.rdT fun a => Le.optT fun l => Le.optT fun hh => ?_
  cases a with
  | nil =>
    simp only
    split
    · rename_i e mp hi'
      rw [h t _ hi']
      simp only
      split
      · rename_i ei hei
        rw [h e _ hei]
        simp only
        have e0 : xbound 0 l = boundT 0 l := xbound_eq (n := 0) rfl l
        have e9 : xbound 0 hh = boundT 0 hh := xbound_eq (n := 0) rfl hh
        rw [e0, e9]
        exact Le.refl _
      · exact Le.fail _
    · exact Le.fail _
  | str s =>
    simp only
    have e0 : xbound 0 l = boundT 0 l := xbound_eq (n := 0) rfl l
    have e9 : xbound (Pm.real.sz s) hh = boundT s.size hh := xbound_eq (n := s.size) rfl hh
    rw [e0, e9]
    split
    · rename_i l' h' e1 e2
      rw [e1, e2]
      simp only
      show Le (match cutStr s l' h' with | some u => put o (.c (.t (.str u))) [] (isStrX ti t = true) | none => fail) _
      split
      · rename_i u hu
        rw [hu]
        exact Le.put fun hs => isStrX_le h hs
      · exact Le.fail _
    · exact Le.fail _
  | sl ow sz xs =>
    cases ow with
    | true => exact Le.fail _
    | false =>
      simp only
      split
      · rename_i e mp hi'
        rw [h t _ hi']
        simp only
        split
        · rename_i ei hei
          rw [h e _ hei]
          simp only
          have e0 : xbound 0 l = boundT 0 l := xbound_eq (n := 0) rfl l
          have e9 : xbound (Pm.real.ln xs) hh = boundT xs.length hh := xbound_eq (n := xs.length) rfl hh
          rw [e0, e9]
          exact Le.refl _
        · exact Le.fail _
      · exact Le.fail _
  | _ => exact Le.fail _
theorem xstepSliceR_le (h : TiOK P ti) {o : Oper} {t : TypeId} {x : Operand} {lo hi : Option Operand} : Le (xstepSliceR Pm.real ti o t x lo hi) (stepSliceR P o t x lo hi) := by
  unfold xstepSliceR stepSliceR
  split
  · rename_i e mp hi'
    rw [h t _ hi']
    simp only
    split
    · rename_i ei hei
      rw [h e _ hei]
      refine Le.rdS fun sv => Le.optT fun l => Le.optT fun hh => ?_
      split
      · refine Le.place fun y => ?_
        split
        · rename_i sz xs
          simp only
          have e0 : xbound 0 l = boundT 0 l := xbound_eq (n := 0) rfl l
          have e9 : xbound (Pm.real.ln xs) hh = boundT xs.length hh := xbound_eq (n := xs.length) rfl hh
          rw [e0, e9]
          exact Le.refl _
        · exact Le.fail _
      · exact Le.fail _
    · exact Le.fail _
  · exact Le.fail _
theorem xstep_le (h : TiOK P ti) (o : Oper) : Le (xstep Pm.real ti o) (astep P o) := by
  unfold xstep astep
  split
  all_goals first
    | exact Le.fail _
    | (rename_i ho; simp only [ho])
  · exact Le.refl _
  · exact Le.refl _
  · exact Le.refl _
  · refine Le.rdT fun a => Le.rdT fun b => ?_
    split
    · rename_i hb
      rw [xbin_le h hb]
      exact Le.refl _
    · exact Le.fail _
  · exact Le.refl _
  · exact Le.refl _
  · rename_i s x f
    cases hi : ti s with
    | none => exact Le.fail _
    | some i => rw [h s i hi]; exact Le.refl _
  · exact xstepIndex_le h
  · exact xstepLoad_le h
  · exact xstepStore_le h
  · rename_i t
    split
    · rename_i d i hd hi
      rw [h t i hi, hd]
      exact Le.refl _
    · exact Le.fail _
  · rename_i t x
    split
    · rename_i d i hd hi
      rw [h t i hi, hd]
      exact Le.refl _
    · exact Le.fail _
  · rename_i t parts
    split
    · rename_i i hi
      rw [h t i hi]
      exact Le.refl _
    · exact Le.fail _
  · rename_i t l c
    split
    · rename_i e mp hi
      rw [h t _ hi]
      simp only
      split
      · rename_i ei hei
        rw [h e _ hei]
        refine Le.rdT fun a => Le.rdT fun b => ?_
        split
        · rename_i n _ m
          simp only
          show Le (match (if 0 ≤ n ∧ n = m ∧ n ≤ (2 ^ 38 : Nat) then some (List.replicate n.toNat ei.zero) else none) with | some xs => put o (.c (.t (.sl true ei.size xs))) [] (ei.bytes ≤ 256 ∧ 0 < ei.size ∧ ei.zero.length = ei.size) | none => fail) _
          split
          · rename_i xs hx
            split at hx
            · rename_i hc
              cases hx
              exact Le.put fun h4 => ⟨hc.1, hc.2.1, hc.2.2, h4⟩
            · cases hx
          · exact Le.fail _
        · exact Le.fail _
      · exact Le.fail _
    · exact Le.fail _
  · exact Le.refl _
  · split
    · rename_i h1 h2
      rw [h1, h2]
      exact xstepLen_le h
    · exact Le.fail _
  · split
    · rename_i h1 h2
      rw [h1, h2]
      simp only
      split
      · exact xstepAppend_le h
      · exact Le.fail _
    · exact Le.fail _
  · exact xstepBuildSlice_le h
  · rename_i t x i
    split
    · rename_i hs
      rw [if_pos (isStrX_le h hs)]
      exact Le.refl _
    · exact Le.fail _
  · rename_i src dst x
    split
    · rename_i k hk
      rw [intX_le h hk]
      refine Le.rdT fun a => ?_
      split
      · exact Le.put fun hs => by
          obtain ⟨i, hi⟩ := Option.isSome_iff_exists.1 hs
          rw [h _ _ hi]; rfl
      · exact Le.fail _
    · split
      · rename_i hs
        rw [isStr_int h hs]
        simp only
        rw [if_pos (isStrX_le h hs)]
        split
        · rename_i hb
          rw [if_pos (isBytesX_eq h hb)]
          refine Le.rdS fun sv => ?_
          split
          · exact Le.refl _
          · exact xderef_le fun t x => Le.refl _
          · exact Le.fail _
        · split
          · rename_i hs2
            have hs3 := isStrX_le h hs2
            rw [if_neg (by rw [isStr_bytes hs3]; simp)]
            refine Le.rdT fun a => ?_
            split
            · exact Le.put fun _ => hs3
            · exact Le.fail _
          · exact Le.fail _
      · exact Le.fail _
  · refine Le.rdS fun sv => ?_
    rcases sv with (⟨_ | _ | _ | _ | _ | _⟩ | _ | _) <;> first | exact xstepSliceR_le h | exact xstepSliceT_le h
  · exact Le.refl _
  · rename_i t m k ok
    show Le _ (stepLookup P o t m k ok)
    unfold stepLookup
    split
    · rename_i kk ik hi
      rw [tinfo_mpt (h t _ hi)]
      refine Le.rdS fun sv => Le.rdT fun kt => ?_
      split
      · refine Le.mp fun es => ?_
        split
        · rename_i es
          show Le (match mapOK kk ik es with | true => _ | false => _) _
          cases hmo : mapOK kk ik es with
          | false => exact Le.fail _
          | true =>
            cases hk : kk.ok kt with
            | false => exact Le.fail _
            | true =>
              cases ok <;> simp only [hmo, Bool.and_self, if_true, Bool.false_eq_true, if_false] <;> exact Le.refl _
        · exact Le.fail _
      · exact Le.fail _
    · exact Le.fail _
  · rename_i t m k v
    show Le _ (stepMapUpdate P o t m k v)
    unfold stepMapUpdate
    split
    · rename_i kk ik hi
      rw [tinfo_mpt (h t _ hi)]
      refine Le.rdS fun sv => Le.rdT fun kt => Le.rdT fun vt => ?_
      split
      · refine Le.mp fun es => ?_
        split
        · rename_i es
          show Le (match mapOK kk ik es with | true => _ | false => _) _
          cases hmo : mapOK kk ik es with
          | false => exact Le.fail _
          | true =>
            cases hk : mapOK kk ik [(kt, vt)] with
            | false => exact Le.fail _
            | true =>
              have : kk.ok kt = true := by simp only [mapOK, List.all_cons, List.all_nil, Bool.and_true, Bool.and_eq_true] at hk; exact hk.1
              simp only [hmo, this, hk, Bool.and_self, if_true]
              exact Le.refl _
        · exact Le.fail _
      · exact Le.fail _
    · exact Le.fail _
  · split
    · rename_i h1 h2
      rw [h1, h2]
      refine Le.rdT fun a => ?_
      split
      · exact Le.put fun hs => isSlX_le h hs
      · exact Le.fail _
    · exact Le.fail _
  · exact Le.refl _
  · exact Le.refl _
  · exact Le.refl _

theorem fin_ok {s : St} {l : List (List Loc × List Loc)} {K : Kont} : ∀ (e : Eff) (lg : List Loc), fin s l K e lg → e.ok := fun _ _ h => h.1
theorem go_mono {α : Type} {s : St} {f : Rd α} {lg : List Loc} {K K' : α → List Loc → Prop} (h : f.go s lg K) (hK : ∀ e lg, K e lg → K' e lg) : f.go s lg K' := by
  rw [Rd.go_iff] at h ⊢
  exact hK _ _ h
theorem fin_mono {s : St} {l : List (List Loc × List Loc)} {K K' : Kont} (hK : ∀ s l, K s l → K' s l) : ∀ e lg, fin s l K e lg → fin s l K' e lg := fun _ _ h => ⟨h.1, hK _ _ h.2⟩
/-- What is read is one thing. -/
def Det {α : Type} (X : (α → List Loc → Prop) → Prop) : Prop := ∀ K, X K → ∃ a lg, K a lg ∧ ∀ K2 : α → List Loc → Prop, K2 a lg → X K2
theorem Det.at {α : Type} (a : α) (lg : List Loc) : Det fun K : α → List Loc → Prop => K a lg := fun K h => ⟨a, lg, h, fun K2 h => h⟩
theorem Det.no {α : Type} : Det fun _ : α → List Loc → Prop => False := fun K h => h.elim
theorem Det.bind {α β : Type} {X : (α → List Loc → Prop) → Prop} {Y : α → List Loc → (β → List Loc → Prop) → Prop} (hX : Det X) (hY : ∀ a lg, Det (Y a lg)) : Det fun K => X fun a lg => Y a lg K := by
  intro K h
  obtain ⟨a, lg, h1, h2⟩ := hX _ h
  obtain ⟨b, lg', h3, h4⟩ := hY a lg _ h1
  exact ⟨b, lg', h3, fun K2 hk => h2 _ (h4 _ hk)⟩
theorem xrdP_det (x : Operand) (s : St) (lg : List Loc) : Det (xrdP x s lg) := by
  cases x with
  | tmp n => exact Det.at _ _
  | const v => exact Det.at _ _
  | func g => exact Det.at _ _
  | global g => exact Det.no
theorem xplaceP_det (r : Root) (c : Nat) (s : St) (lg : List Loc) : Det (xplaceP r c s lg) := by
  cases r with
  | slot n =>
    intro K h
    simp only [xplaceP] at h ⊢
    split at h
    · exact h.elim
    · rename_i e
      simp only [if_neg e]
      split at h
      · exact ⟨_, _, h, fun K2 hk => by simp_all⟩
      · exact h.elim
  | new n =>
    intro K h
    simp only [xplaceP] at h ⊢
    split at h
    · exact h.elim
    · rename_i e
      simp only [if_neg e]
      split at h
      · exact ⟨_, _, h, fun K2 hk => by simp_all⟩
      · exact h.elim
  | obj k =>
    intro K h
    simp only [xplaceP] at h ⊢
    split at h
    · rename_i e
      simp only [if_pos e]
      split at h
      · exact h.elim
      · rename_i e
        simp only [if_neg e]
        split at h
        · exact ⟨_, _, h, fun K2 hk => by simp_all⟩
        · exact h.elim
    · exact h.elim
  | ret => exact Det.no
theorem xderefP_det (π : Pm) (a : CA) (s : St) (lg : List Loc) : Det (xderefP π a s lg) := by
  unfold xderefP
  refine Det.bind (Y := fun t lg (K : T → List Loc → Prop) => match T.xat π t a.path with | some x => K x lg | none => False) (xplaceP_det _ _ _ _) fun t lg => ?_
  cases T.xat π t a.path with
  | none => exact Det.no
  | some x => exact Det.at _ _
mutual
theorem xpassC_det (π : Pm) : ∀ (x : C) (s : St) (lg : List Loc), Det fun K : C × Bool → List Loc → Prop => xpassC π x s lg fun a b lg => K (a, b) lg
  | .t y, s, lg => by simp only [xpassC]; exact Det.at _ _
  | .ref a, s, lg => by
    simp only [xpassC]
    refine Det.bind (Y := fun y lg (K : C × Bool → List Loc → Prop) => if y.isOwn then K (.t (xview π y), false) lg else False) (xderefP_det π a s lg) fun y lg => ?_
    intro K h
    split at h
    · rename_i e
      exact ⟨_, _, h, fun K2 h => by show ite _ _ _; rw [if_pos e]; exact h⟩
    · exact h.elim
  | .ptr a, s, lg => by simp only [xpassC]; exact Det.no
  | .fp row c, s, lg => by simp only [xpassC]; exact Det.at _ _
  | .clo k caps, s, lg => by
    simp only [xpassC]
    exact Det.bind (Y := fun p lg (K : C × Bool → List Loc → Prop) => K (.clo k p.1, p.2) lg) (xpassL_det π caps s lg) fun p lg => Det.at _ _
  | .mp k, s, lg => by simp only [xpassC]; exact Det.no
theorem xpassL_det (π : Pm) : ∀ (l : List C) (s : St) (lg : List Loc), Det fun K : List C × Bool → List Loc → Prop => xpassL π l s lg fun a b lg => K (a, b) lg
  | [], s, lg => by simp only [xpassL]; exact Det.at _ _
  | x :: l, s, lg => by
    simp only [xpassL]
    exact Det.bind (Y := fun p lg (K : List C × Bool → List Loc → Prop) => xpassL π l s lg fun ys c2 lg => K (p.1 :: ys, p.2 && c2) lg) (xpassC_det π x s lg) fun p lg =>
      Det.bind (Y := fun q lg (K : List C × Bool → List Loc → Prop) => K (p.1 :: q.1, p.2 && q.2) lg) (xpassL_det π l s lg) fun q lg => Det.at _ _
end
theorem xpassArgs_det (π : Pm) : ∀ (l : List Operand) (s : St) (lg : List Loc), Det fun K : List SV × Bool → List Loc → Prop => xpassArgs π l s lg fun a b lg => K (a, b) lg
  | [], s, lg => by simp only [xpassArgs]; exact Det.at _ _
  | x :: l, s, lg => by
    intro K h
    simp only [xpassArgs] at h ⊢
    obtain ⟨sv, lg1, h1, h2⟩ := xrdP_det x s lg _ h
    cases sv with
    | c y =>
      obtain ⟨p, lg2, h3, h4⟩ := xpassC_det π y s lg1 (fun p lg => xpassArgs π l s lg fun ys c2 lg => K (.c p.1 :: ys, p.2 && c2) lg) h1
      obtain ⟨q, lg3, h5, h6⟩ := xpassArgs_det π l s lg2 (fun q lg => K (.c p.1 :: q.1, p.2 && q.2) lg) h3
      exact ⟨_, _, h5, fun K2 hk => h2 _ (h4 (fun p lg => xpassArgs π l s lg fun ys c2 lg => K2 (.c p.1 :: ys, p.2 && c2) lg) (h6 (fun q lg => K2 (.c p.1 :: q.1, p.2 && q.2) lg) hk))⟩
    | agg row =>
      obtain ⟨p, lg2, h3, h4⟩ := xpassL_det π row s lg1 (fun p lg => xpassArgs π l s lg fun ys c2 lg => K (.agg p.1 :: ys, p.2 && c2) lg) h1
      obtain ⟨q, lg3, h5, h6⟩ := xpassArgs_det π l s lg2 (fun q lg => K (.agg p.1 :: q.1, p.2 && q.2) lg) h3
      exact ⟨_, _, h5, fun K2 hk => h2 _ (h4 (fun p lg => xpassArgs π l s lg fun ys c2 lg => K2 (.agg p.1 :: ys, p.2 && c2) lg) (h6 (fun q lg => K2 (.agg p.1 :: q.1, p.2 && q.2) lg) hk))⟩
    | tup l => exact h1.elim
theorem xcall_le {R : Rel} {o : Oper} {g : Nat} {args : List Operand} {s : St} {lg : List Loc} {l : List (List Loc × List Loc)} {K K' : Kont} (hK : ∀ s l, K s l → K' s l)
    (hx : xpassArgs Pm.real args s lg fun fa cl lg => ∃ res, xret Pm.real R g fa cl res ∧ (put o res [] True).go s lg (fin s l K)) : ∃ an, (stepCall R o g args an).go s lg (fin s l K') := by
  obtain ⟨⟨fa, cl⟩, lg', ⟨res, h1, h2⟩, h3⟩ := xpassArgs_det Pm.real args s lg (fun p lg => ∃ res, xret Pm.real R g p.1 p.2 res ∧ (put o res [] True).go s lg (fin s l K)) hx
  refine ⟨⟨res, [], [], []⟩, ?_⟩
  refine xpassArgs_le args (h3 (fun p lg => p = (fa, cl) ∧ lg = lg') ⟨rfl, rfl⟩) fun z p cl' lg'' hp hq => ?_
  obtain ⟨hq, rfl⟩ := hq
  cases hq
  refine Le.put (fun _ => ⟨?_, ?_, hp, ?_⟩) s _ _ fin_ok (go_mono h2 (fin_mono hK))
  · unfold xret at h1; split at h1
    · exact h1.2
    · exact h1.2.1
  · unfold xret at h1; split at h1
    · exact h1.1
    · exact h1.1
  · unfold xret at h1; split at h1
    · exact .inl ‹_›
    · exact .inr (by rw [← xnoFzSV_eq]; exact h1.2.2)
theorem xcallv_le {R : Rel} {o : Oper} {n g : Nat} {caps : List C} {args : List Operand} {s : St} {lg : List Loc} {l : List (List Loc × List Loc)} {K K' : Kont} (hK : ∀ s l, K s l → K' s l) (hsl : s.slot n = .c (.clo g caps))
    (hx : xpassArgs Pm.real args s (.slot n :: lg) fun fa c1 lg => xpassL Pm.real caps s lg fun cs c2 lg => ∃ res, xret Pm.real R g (fa ++ cs.map SV.c) (c1 && c2) res ∧ (put o res [] True).go s lg (fin s l K)) : ∃ an, (stepCallV R o n args an).go s lg (fin s l K') := by
  obtain ⟨⟨fa, c1⟩, lg1, h1, h2⟩ := xpassArgs_det Pm.real args s (.slot n :: lg) (fun p lg => xpassL Pm.real caps s lg fun cs c2 lg => ∃ res, xret Pm.real R g (p.1 ++ cs.map SV.c) (p.2 && c2) res ∧ (put o res [] True).go s lg (fin s l K)) hx
  obtain ⟨⟨cs, c2⟩, lg2, ⟨res, h3, h4⟩, h5⟩ := xpassL_det Pm.real caps s lg1 (fun q lg => ∃ res, xret Pm.real R g (fa ++ q.1.map SV.c) (c1 && q.2) res ∧ (put o res [] True).go s lg (fin s l K)) h1
  refine ⟨⟨res, [], [], []⟩, ?_⟩
  simp only [stepCallV, Rd.go, hsl]
  refine xpassArgs_le args (h2 (fun p lg => p = (fa, c1) ∧ lg = lg1) ⟨rfl, rfl⟩) fun z p cl' lg'' hp hq => ?_
  obtain ⟨hq, rfl⟩ := hq
  cases hq
  refine xpassL_le caps (h5 (fun p lg => p = (cs, c2) ∧ lg = lg2) ⟨rfl, rfl⟩) fun z p' cl'' lg''' hp' hq => ?_
  obtain ⟨hq, rfl⟩ := hq
  cases hq
  refine Le.put (fun _ => ⟨?_, ?_, ⟨hp, hp'⟩, ?_⟩) s _ _ fin_ok (go_mono h4 (fin_mono hK))
  · unfold xret at h3; split at h3
    · exact h3.2
    · exact h3.2.1
  · unfold xret at h3; split at h3
    · exact h3.1
    · exact h3.1
  · unfold xret at h3; split at h3
    · exact .inl ‹_›
    · exact .inr (by rw [← xnoFzSV_eq]; exact h3.2.2)
theorem xlendC_det (x : C) (j : Nat) (s : St) (lg : List Loc) : Det fun K : C × List CA → List Loc → Prop => xlendC x j s lg fun a b lg => K (a, b) lg := by
  cases x with
  | t y => exact Det.at _ _
  | ref a => exact Det.at _ _
  | fp row c => exact Det.at _ _
  | _ => exact Det.no
theorem xlendL_det : ∀ (l : List C) (j : Nat) (s : St) (lg : List Loc), Det fun K : List C × List CA → List Loc → Prop => xlendL l j s lg fun a b lg => K (a, b) lg
  | [], j, s, lg => by simp only [xlendL]; exact Det.at _ _
  | x :: l, j, s, lg => by
    simp only [xlendL]
    exact Det.bind (Y := fun p lg (K : List C × List CA → List Loc → Prop) => xlendL l (j + p.2.length) s lg fun ys bs lg => K (p.1 :: ys, p.2 ++ bs) lg) (xlendC_det x j s lg) fun p lg =>
      Det.bind (Y := fun q lg (K : List C × List CA → List Loc → Prop) => K (p.1 :: q.1, p.2 ++ q.2) lg) (xlendL_det l _ s lg) fun q lg => Det.at _ _
theorem xlendArgs_det : ∀ (l : List Operand) (j : Nat) (s : St) (lg : List Loc), Det fun K : List SV × List CA → List Loc → Prop => xlendArgs l j s lg fun a b lg => K (a, b) lg
  | [], j, s, lg => by simp only [xlendArgs]; exact Det.at _ _
  | x :: l, j, s, lg => by
    intro K h
    simp only [xlendArgs] at h ⊢
    obtain ⟨sv, lg1, h1, h2⟩ := xrdP_det x s lg _ h
    cases sv with
    | c y =>
      obtain ⟨p, lg2, h3, h4⟩ := xlendC_det y j s lg1 (fun p lg => xlendArgs l (j + p.2.length) s lg fun ys c2 lg => K (.c p.1 :: ys, p.2 ++ c2) lg) h1
      obtain ⟨q, lg3, h5, h6⟩ := xlendArgs_det l _ s lg2 (fun q lg => K (.c p.1 :: q.1, p.2 ++ q.2) lg) h3
      exact ⟨_, _, h5, fun K2 hk => h2 _ (h4 (fun p lg => xlendArgs l (j + p.2.length) s lg fun ys c2 lg => K2 (.c p.1 :: ys, p.2 ++ c2) lg) (h6 (fun q lg => K2 (.c p.1 :: q.1, p.2 ++ q.2) lg) hk))⟩
    | agg row =>
      obtain ⟨p, lg2, h3, h4⟩ := xlendL_det row j s lg1 (fun p lg => xlendArgs l (j + p.2.length) s lg fun ys c2 lg => K (.agg p.1 :: ys, p.2 ++ c2) lg) h1
      obtain ⟨q, lg3, h5, h6⟩ := xlendArgs_det l _ s lg2 (fun q lg => K (.agg p.1 :: q.1, p.2 ++ q.2) lg) h3
      exact ⟨_, _, h5, fun K2 hk => h2 _ (h4 (fun p lg => xlendArgs l (j + p.2.length) s lg fun ys c2 lg => K2 (.agg p.1 :: ys, p.2 ++ c2) lg) (h6 (fun q lg => K2 (.agg p.1 :: q.1, p.2 ++ q.2) lg) hk))⟩
    | tup l => exact h1.elim
theorem xlendC_le {x : C} {j : Nat} {s : St} {lg : List Loc} {K : C → List CA → List Loc → Prop} {f : C → List CA → Rd Eff} {K' : Eff → List Loc → Prop} (hx : xlendC x j s lg K) (h : ∀ z as lg, K z as lg → (f z as).go s lg K') : (lendC x j f).go s lg K' := by
  cases x with
  | t y => exact h _ _ _ hx
  | ref a => exact h _ _ _ hx
  | fp row c => exact h _ _ _ hx
  | _ => exact hx.elim
theorem xlendL_le : ∀ (l : List C) {j : Nat} {s : St} {lg : List Loc} {K : List C → List CA → List Loc → Prop} {f : List C → List CA → Rd Eff} {K' : Eff → List Loc → Prop}, xlendL l j s lg K → (∀ z as lg, K z as lg → (f z as).go s lg K') → (lendL l j f).go s lg K'
  | [], j, s, lg, K, f, K', hx, h => h _ _ _ hx
  | x :: l, j, s, lg, K, f, K', hx, h => by
    simp only [xlendL] at hx
    simp only [lendL]
    exact xlendC_le hx fun z as lg hq => xlendL_le l hq fun zs bs lg hq' => h _ _ _ hq'
theorem xlendArgs_le : ∀ (l : List Operand) {j : Nat} {s : St} {lg : List Loc} {K : List SV → List CA → List Loc → Prop} {f : List SV → List CA → Rd Eff} {K' : Eff → List Loc → Prop}, xlendArgs l j s lg K → (∀ z as lg, K z as lg → (f z as).go s lg K') → (lendArgs l j f).go s lg K'
  | [], j, s, lg, K, f, K', hx, h => h _ _ _ hx
  | x :: l, j, s, lg, K, f, K', hx, h => by
    simp only [xlendArgs] at hx
    simp only [lendArgs]
    refine xrdP_le hx fun sv lg hq => ?_
    cases sv with
    | c y => exact xlendC_le hq fun z as lg hq => xlendArgs_le l hq fun zs bs lg hq' => h _ _ _ hq'
    | agg row => exact xlendL_le row hq fun z as lg hq => xlendArgs_le l hq fun zs bs lg hq' => h _ _ _ hq'
    | tup l => exact hq.elim
theorem xlendAt_det (π : Pm) : ∀ (as : List CA) (s : St) (lg : List Loc), Det fun K : List (T × T) → List Loc → Prop => xlendAt π as s lg K
  | [], s, lg => by simp only [xlendAt]; exact Det.at _ _
  | a :: as, s, lg => by
    intro K h
    simp only [xlendAt] at h ⊢
    obtain ⟨t, lg1, h1, h2⟩ := xplaceP_det a.root a.c s lg _ h
    cases hat : T.xat π t a.path with
    | none => rw [hat] at h1; exact h1.elim
    | some y =>
      rw [hat] at h1
      simp only at h1
      split at h1
      · rename_i ho
        obtain ⟨q, lg2, h3, h4⟩ := xlendAt_det π as s lg1 (fun l lg => K ((t, y) :: l) lg) h1
        exact ⟨_, _, h3, fun K2 hk => h2 _ (by
          rw [hat]
          simp only
          rw [if_pos ho]
          exact h4 (fun l lg => K2 ((t, y) :: l) lg) hk)⟩
      · exact h1.elim
theorem xlendAt_le : ∀ {as : List CA} {s : St} {lg : List Loc} {K : List (T × T) → List Loc → Prop} {zs : List T} {f : List AR → List Upd → Rd Eff} {K' : Eff → List Loc → Prop}, xlendAt Pm.real as s lg K →
    (∀ ps lg, K ps lg → ∃ us, xlendU Pm.real as ps zs = some us ∧ (f (ps.map fun p => AR.virt p.2) us).go s lg K') → (lendAt as (zs.map AR.virt) f).go s lg K'
  | [], s, lg, K, zs, f, K', hx, h => by
    simp only [xlendAt] at hx
    obtain ⟨us, h1, h2⟩ := h _ _ hx
    cases zs with
    | nil => simp only [xlendU, Option.some.injEq] at h1; subst h1; exact h2
    | cons z zs => simp [xlendU] at h1
  | a :: as, s, lg, K, zs, f, K', hx, h => by
    simp only [xlendAt] at hx
    cases zs with
    | nil =>
      exfalso
      obtain ⟨t, lg1, h1, _⟩ := xplaceP_det a.root a.c s lg _ hx
      split at h1
      · split at h1
        · obtain ⟨q, lg2, h3, _⟩ := xlendAt_det Pm.real as s lg1 _ h1
          obtain ⟨us, h4, _⟩ := h _ _ h3
          simp [xlendU] at h4
        · exact h1.elim
      · exact h1.elim
    | cons z zs =>
      simp only [List.map_cons, lendAt]
      refine xplaceP_le hx fun t lg hq => ?_
      rw [xat_eq] at hq
      cases hat : t.at a.path with
      | none => rw [hat] at hq; exact hq.elim
      | some y =>
        rw [hat] at hq
        simp only at hq ⊢
        split at hq
        · rename_i ho
          by_cases hz : z.isOwn = true
          · rw [if_pos (by rw [ho, hz]; rfl)]
            refine xlendAt_le (zs := zs) hq fun ps lg hk => ?_
            obtain ⟨us, h1, h2⟩ := h _ _ hk
            simp only [xlendU, hz, if_true] at h1
            split at h1
            · rename_i us' hu
              cases h1
              refine ⟨us', hu, ?_⟩
              simp only [List.map_cons, xput_eq] at h2
              exact h2
            · cases h1
          · exfalso
            obtain ⟨q, lg2, h3, _⟩ := xlendAt_det Pm.real as s lg _ hq
            obtain ⟨us, h4, _⟩ := h _ _ h3
            simp [xlendU, hz] at h4
        · exact hq.elim
theorem xcallM_le {R : Rel} {o : Oper} {g : Nat} {args : List Operand} {s : St} {lg : List Loc} {l : List (List Loc × List Loc)} {K K' : Kont} (hK : ∀ s l, K s l → K' s l)
    (hx : xcallM Pm.real R g o args s lg l K) : ∃ an, (stepCall R o g args an).go s lg (fin s l K') := by
  unfold xcallM at hx
  let Y : List SV → List CA → List (T × T) → List Loc → Prop := fun fa as ps lg => ∃ (res : SV) (zs : List T), (R g fa (ps.map fun p => AR.virt p.2) res (zs.map AR.virt) ∧ res.data = true) ∧
    match xlendU Pm.real as ps zs with
    | some us => (put o res us (o.dst.isSome = true ∧ as.length ≤ 1000 ∧ zs.isEmpty = false)).go s lg (fin s l K)
    | none => False
  obtain ⟨⟨fa, as⟩, lg1, h1, h2⟩ := xlendArgs_det args 0 s lg (fun p lg => xlendAt Pm.real p.2 s lg (Y p.1 p.2)) hx
  obtain ⟨ps, lg2, h3, h4⟩ := xlendAt_det Pm.real as s lg1 _ h1
  obtain ⟨res, zs, h5, h6⟩ := h3
  cases hu : xlendU Pm.real as ps zs with
  | none => rw [hu] at h6; exact h6.elim
  | some us =>
    rw [hu] at h6
    simp only at h6
    have hok : o.dst.isSome = true ∧ as.length ≤ 1000 ∧ zs.isEmpty = false := by
      rw [Rd.go_iff] at h6
      have h7 := h6.1
      obtain ⟨q, _⟩ := put_ok h7
      exact q
    refine ⟨⟨res, zs.map AR.virt, [], []⟩, ?_⟩
    have hne : zs.map AR.virt ≠ [] := by
      intro e
      have e : zs = [] := by simpa using e
      have h9 := hok.2.2
      rw [e] at h9
      cases h9
    have hst : stepCall R o g args ⟨res, zs.map AR.virt, [], []⟩ = stepCallM R o g args ⟨res, zs.map AR.virt, [], []⟩ := by
      cases zs with
      | nil => exact absurd rfl hne
      | cons z zs => rfl
    rw [hst]
    unfold stepCallM
    refine xlendArgs_le args (h2 (fun p lg => p = (fa, as) ∧ lg = lg1) ⟨rfl, rfl⟩) fun z as' lg' hq => ?_
    obtain ⟨hq, rfl⟩ := hq
    cases hq
    refine xlendAt_le (zs := zs) (h4 (fun p lg => p = ps ∧ lg = lg2) ⟨rfl, rfl⟩) fun ps' lg' hq => ?_
    obtain ⟨rfl, rfl⟩ := hq
    refine ⟨us, hu, ?_⟩
    rw [if_pos (by simp [hok.1, hok.2.1])]
    exact Le.put (fun _ => ⟨h5.2, h5.1⟩) s _ _ fin_ok (go_mono h6 (fin_mono hK))
theorem xnoFzAR_eq (x : AR) : xnoFzAR Pm.real x = x.noFz := by
  cases x with
  | box row => simp only [xnoFzAR, AR.noFz, xnoFzC_eq]
  | virt x => exact xnoFz_eq x
  | mbox row => simp only [xnoFzAR, AR.noFz, xnoFzC_eq]
  | map es => simp only [xnoFzAR, AR.noFz, xnoFz_eq]
  | mmap es => simp only [xnoFzAR, AR.noFz, xnoFz_eq]
theorem Le.ite {c : Prop} [Decidable c] {a b a' b' : Rd Eff} (h : Le a a') (h' : Le b b') : Le (if c then a else b) (if c then a' else b') := by
  split
  · exact h
  · exact h'
theorem xpassG_le {am : List Nat} {bad : List (Root × Nat)} {x : C} {f g : C → Bool → Rd Eff} (h : ∀ z c, Le (f z c) (g z c)) : Le (xpassG Pm.real am bad x f) (passG am bad x g) := by
  have other : Le (match mapC am x with | some z => f z true | none => Vx.fail) (match mapC am x with | some z => g z true | none => Vx.fail) := by
    cases mapC am x with
    | none => exact Le.refl _
    | some z => exact h _ _
  cases x with
  | ref a =>
    simp only [xpassG, passG]
    refine Le.ite (Le.refl _) (xderef_le fun t y => Le.ite ?_ (Le.refl _))
    rw [xview_eq]
    exact h _ _
  | _ => exact other
theorem xpassGL_le {am : List Nat} {bad : List (Root × Nat)} : ∀ {l : List C} {f g : List C → Bool → Rd Eff}, (∀ z c, Le (f z c) (g z c)) → Le (xpassGL Pm.real am bad l f) (passGL am bad l g)
  | [], f, g, h => h _ _
  | x :: l, f, g, h => xpassG_le fun z c1 => xpassGL_le fun zs c2 => h _ _
theorem xpassGA_le {am : List Nat} {mv : List (Nat × CA)} : ∀ {l : List Operand} {i : Nat} {f g : List SV → Bool → List Upd → Rd Eff}, (∀ z c us, Le (f z c us) (g z c us)) → Le (xpassGA Pm.real am mv i l f) (passGA am mv i l g)
  | [], i, f, g, h => h _ _ _
  | x :: l, i, f, g, h => by
    simp only [xpassGA, passGA]
    refine Le.rdS fun sv => ?_
    cases lk i mv with
    | some a =>
      rcases sv with (⟨_ | b | _ | _ | _ | _⟩ | _ | _)
      case c.ref =>
        refine Le.ite (Le.place fun t => ?_) (Le.refl _)
        simp only [xat_eq]
        cases t.at a.path with
        | none => exact Le.refl _
        | some y =>
          refine Le.ite ?_ (Le.refl _)
          simp only [xput_eq]
          exact xpassGA_le fun l cl us => h _ _ _
      all_goals exact Le.fail _
    | none =>
      cases sv with
      | c y => exact xpassG_le fun z c1 => xpassGA_le fun l c2 us => h _ _ _
      | agg row => exact xpassGL_le fun z c1 => xpassGA_le fun l c2 us => h _ _ _
      | tup l => exact Le.refl _
theorem readRow_le {k : Nat} : ∀ {n c : Nat} {f g : List C → Rd Eff}, (∀ l, Le (f l) (g l)) → Le (readRow k c n f) (readRow k c n g)
  | 0, c, f, g, h => h _
  | n + 1, c, f, g, h => Le.cell fun x _ => readRow_le fun l => h _
theorem lendG_le {am : List Nat} : ∀ {ks : List Nat} {f g : List AR → Rd Eff}, (∀ rs, Le (f rs) (g rs)) → Le (lendG am ks f) (lendG am ks g)
  | [], f, g, h => h _
  | k :: ks, f, g, h => by
    simp only [lendG]
    refine Le.kind fun kd => Le.mp fun m => ?_
    rcases kd with _ | (n | _) <;> rcases m with _ | es
    · exact Le.refl _
    · exact lendG_le fun rs => h _
    · refine readRow_le fun l => ?_
      cases mapCs am l with
      | none => exact Le.refl _
      | some zs => exact lendG_le fun rs => h _
    · exact Le.refl _
    · exact Le.refl _
    · exact Le.refl _
theorem backG_le {am : List Nat} : ∀ {ks : List Nat} {out : List AR} {f g : List Upd → Option AR → Rd Eff}, (∀ us md, Le (f us md) (g us md)) → Le (backG am ks out f) (backG am ks out g)
  | [], [], f, g, h => h _ _
  | [], [.mbox row], f, g, h => h _ _
  | [], [.mmap es], f, g, h => h _ _
  | k :: ks, .box zs :: out, f, g, h => by
    simp only [backG]
    refine Le.kind fun kd => ?_
    rcases kd with _ | (n | _)
    · exact Le.refl _
    · cases unCs am zs with
      | none => exact Le.refl _
      | some row => exact Le.ite (backG_le fun us md => h _ _) (Le.refl _)
    · exact Le.refl _
  | k :: ks, .map es :: out, f, g, h => by
    simp only [backG]
    refine Le.mp fun m => ?_
    cases m with
    | none => exact Le.refl _
    | some e => exact backG_le fun us md => h _ _
  | [], .box _ :: _, f, g, h => by simp only [backG]; exact Le.refl _
  | [], .virt _ :: _, f, g, h => by simp only [backG]; exact Le.refl _
  | [], .map _ :: _, f, g, h => by simp only [backG]; exact Le.refl _
  | [], .mbox _ :: _ :: _, f, g, h => by simp only [backG]; exact Le.refl _
  | [], .mmap _ :: _ :: _, f, g, h => by simp only [backG]; exact Le.refl _
  | _ :: _, [], f, g, h => by simp only [backG]; exact Le.refl _
  | _ :: _, .virt _ :: _, f, g, h => by simp only [backG]; exact Le.refl _
  | _ :: _, .mbox _ :: _, f, g, h => by simp only [backG]; exact Le.refl _
  | _ :: _, .mmap _ :: _, f, g, h => by simp only [backG]; exact Le.refl _
theorem putG_le {o : Oper} {res : SV} {md : Option AR} {us : List Upd} {ok ok' : Prop} (h : ok → ok') : Le (putG o res md us ok) (putG o res md us ok') := by
  unfold putG
  rcases md with _ | (_ | _ | _ | row | es)
  · exact Le.ite (Le.put h) (Le.refl _)
  · exact Le.refl _
  · exact Le.refl _
  · exact Le.refl _
  · cases o.dst with
    | none => exact Le.refl _
    | some d =>
      simp only
      split
      · refine Le.ite (Le.kind fun kd => Le.mp fun m => ?_) (Le.refl _)
        cases kd <;> cases m <;> first | exact Le.refl _ | exact Le.put h
      · exact Le.refl _
  · cases o.dst with
    | none => exact Le.refl _
    | some d =>
      simp only
      split
      · refine Le.ite (Le.kind fun kd => Le.mp fun m => ?_) (Le.refl _)
        cases kd <;> cases m <;> first | exact Le.refl _ | exact Le.put h
      · exact Le.refl _
theorem xstepCallG_le {R : Rel} {o : Oper} {g : Nat} {args : List Operand} {caps : List C} {an : Ans} : Le (xstepCallG Pm.real R o g args caps an) (stepCallG R o g args caps an) := by
  unfold xstepCallG stepCallG
  refine Le.ite (xpassGA_le fun fa cl us => ?_) (Le.refl _)
  cases mapCs an.am caps with
  | none => exact Le.refl _
  | some cs =>
    refine lendG_le fun rs => backG_le fun vs md => putG_le fun hok => ⟨hok.1, ?_⟩
    have h2 := hok.2
    cases cl with
    | true => exact .inl rfl
    | false =>
      simp only [xnoFzSV_eq] at h2
      refine .inr ⟨h2.1, ?_⟩
      have h3 := h2.2
      simp only [List.all_eq_true, xnoFzAR_eq] at h3 ⊢
      exact h3
theorem xAns_cases {an : Ans} (h : xAns an) : (an.am ≠ [] ∨ an.mv ≠ [] ∨ an.out ≠ []) ∧ ∀ x l, an.am = [] → an.mv = [] → an.out ≠ .virt x :: l := by
  obtain ⟨res, out, am, mv⟩ := an
  unfold xAns at h
  cases am with
  | cons a am => simp
  | nil =>
    cases mv with
    | cons a mv => simp
    | nil =>
      cases out with
      | nil => exact h.elim
      | cons a out =>
        cases a with
        | virt x => exact h.elim
        | _ => simp
theorem stepCall_G {R : Rel} {o : Oper} {g : Nat} {args : List Operand} {an : Ans} (h : xAns an) : stepCall R o g args an = stepCallG R o g args [] an := by
  obtain ⟨h1, h2⟩ := xAns_cases h
  unfold stepCall
  split
  · rename_i e1 e2 e3
    rcases h1 with h1 | h1 | h1 <;> contradiction
  · rename_i e1 e2 e3
    exact absurd e3 (h2 _ _ e1 e2)
  · rfl
theorem xga_eq (s : St) (r : Root) (c : Nat) (a : GA) : s.xga Pm.real r c a = s.ga r c a := rfl
theorem xweak_eq (id : Nat) : ∀ (l : List (Nat × Root × Nat × GA)) (s : St), s.xweak Pm.real id l = s.weak id l
  | [], s => rfl
  | (i, r, c, a) :: l, s => by simp only [St.xweak, St.weak, xga_eq, xweak_eq id l]
theorem xaop1_le (h : TiOK P ti) {mu : Mu} {R : Rel} {o : Oper} {s : St} {lg : List Loc} {l : List (List Loc × List Loc)} {K K' : Kont} (hK : ∀ s l, K s l → K' s l) (hx : xaop1 Pm.real ti mu R o s lg l K) : aop1 P R o s lg l K' := by
  unfold xaop1 at hx
  unfold aop1
  split at hx
  · rename_i ho
    simp only [ho]
    split at hx
    · rename_i hs
      simp only [hs]
      split at hx
      · exact ⟨fun _ => go_mono hx (fin_mono hK), fun h => by cases h⟩
      · exact ⟨fun h => (by cases h), fun _ => go_mono hx (fin_mono hK)⟩
    · exact hx.elim
  · rename_i ho
    simp only [ho]
    split at hx
    · exact xcallM_le hK hx
    · obtain ⟨an, ha, hx⟩ := hx
      refine ⟨an, ?_⟩
      rw [stepCall_G ha]
      exact xstepCallG_le s _ _ fin_ok (go_mono hx (fin_mono hK))
    · exact xcall_le hK hx
  · rename_i ho
    simp only [ho]
    split at hx
    · rename_i hs
      split at hx
      · obtain ⟨an, ha, hx⟩ := hx
        refine ⟨an, ?_⟩
        simp only [stepCallV, Rd.go, hs]
        have := xstepCallG_le s _ _ fin_ok (go_mono hx (fin_mono hK))
        obtain ⟨h1, h2⟩ := xAns_cases ha
        split
        · rename_i e1 e2 e3
          rcases h1 with h1 | h1 | h1 <;> contradiction
        · exact this
      · exact xcallv_le hK hs hx
    · exact hx.elim
  · rename_i h1 h2 h3
    split
    · exact absurd ‹_› (h1 _ _ _)
    · exact absurd ‹_› (h2 _ _ _)
    · exact absurd ‹_› (h3 _ _ _)
    · exact xstep_le h o s lg _ fin_ok (go_mono hx (fin_mono hK))
theorem xaop_le (h : TiOK P ti) {mu : Mu} {R : Rel} {ops : List Oper} {o : Oper} {s : St} {l : List (List Loc × List Loc)} {K K' : Kont} (hK : ∀ s l, K s l → K' s l) (hx : xaop Pm.real ti mu R ops o s l K) : aop P R ops o s l K' := by
  unfold xaop at hx
  unfold aop
  cases hg : o.guard with
  | none => rw [hg] at hx; exact xaop1_le h hK hx
  | some p =>
    obtain ⟨j, want⟩ := p
    rw [hg] at hx
    simp only at hx ⊢
    cases hd : (ops[j]?).bind (·.dst) with
    | none => rw [hd] at hx; exact hx.elim
    | some d =>
      rw [hd] at hx
      simp only at hx ⊢
      split at hx
      · rename_i b hs
        simp only [hs]
        cases b <;> cases want
        · exact ⟨fun _ => xaop1_le h hK hx, fun h => by cases h⟩
        · exact ⟨fun h => (by cases h), fun _ => go_mono hx (fin_mono hK)⟩
        · exact ⟨fun h => (by cases h), fun _ => go_mono hx (fin_mono hK)⟩
        · exact ⟨fun _ => xaop1_le h hK hx, fun h => by cases h⟩
      · rename_i hs
        simp only [hs]
        exact go_mono hx (fin_mono hK)
      · exact hx.elim
theorem xaops_le (h : TiOK P ti) {mu : Mu} {R : Rel} {ops : List Oper} : ∀ {r : List Oper} {s : St} {l : List (List Loc × List Loc)} {K K' : Kont}, (∀ s l, K s l → K' s l) → xaops Pm.real ti mu R ops r s l K → aops P R ops r s l K'
  | [], s, l, K, K', hK, hx => hK _ _ hx
  | o :: r, s, l, K, K', hK, hx => xaop_le h (fun s l hx => xaops_le h hK hx) hx
theorem aloop_mono {b b' : (AX → St → Prop) → St → Prop} (hb : ∀ Q Q' s, (∀ e s, Q e s → Q' e s) → b Q s → b' Q' s) {Q Q' : AX → St → Prop} {s : St} (hQ : ∀ e s, Q e s → Q' e s) (hx : aloop b Q s) : aloop b' Q' s := by
  obtain ⟨kl, ol, I, h1, h2⟩ := hx
  refine ⟨kl, ol, I, h1, fun n s hI => hb _ _ s (fun e s2 h => ?_) (h2 n s hI)⟩
  cases e with
  | normal => exact h
  | exit id => exact hQ _ _ h
  | ret => exact hQ _ _ h
theorem xawp_le (h : TiOK P ti) {mu : Mu} {R : Rel} {keep : Kp} : ∀ (c : Code) (Q Q' : AX → St → Prop) (s : St), (∀ e s, Q e s → Q' e s) → xawp Pm.real ti mu R keep c Q s → awp P R keep c Q' s := by
  intro c
  induction c with
  | skip => intro Q Q' s hQ hx; exact hQ _ _ hx
  | region id ops draw =>
    intro Q Q' s hQ hx
    simp only [xawp] at hx
    simp only [awp]
    refine xaops_le h (fun s l hx => ?_) hx
    rw [xweak_eq] at hx
    cases draw with
    | true => exact ⟨fun _ => hx.1, hQ _ _ hx.2⟩
    | false => exact ⟨fun h => (by cases h), hQ _ _ hx⟩
  | seq a b iha ihb =>
    intro Q Q' s hQ hx
    simp only [xawp] at hx
    simp only [awp]
    refine iha _ _ s (fun e s hx => ?_) hx
    cases e with
    | normal => exact ihb _ _ s hQ hx
    | exit id => exact hQ _ _ hx
    | ret => exact hQ _ _ hx
  | cond cnd x y ihx ihy =>
    intro Q Q' s hQ hx
    cases cnd with
    | tmp n =>
      simp only [xawp] at hx
      simp only [awp]
      split at hx
      · rename_i hs
        simp only [hs]
        split at hx
        · exact ⟨fun _ => ihx _ _ s hQ hx, fun h => by cases h⟩
        · exact ⟨fun h => (by cases h), fun _ => ihy _ _ s hQ hx⟩
      · rename_i hs
        simp only [hs]
        exact ⟨fun hp => ihx _ _ s hQ (hx.1 hp), fun hq => ihy _ _ s hQ (hx.2 hq)⟩
      · exact hx.elim
    | const v =>
      cases v with
      | bool t =>
        simp only [xawp] at hx
        simp only [awp]
        split at hx
        · exact ⟨fun _ => ihx _ _ s hQ hx, fun h => by cases h⟩
        · exact ⟨fun h => (by cases h), fun _ => ihy _ _ s hQ hx⟩
      | _ => exact hx.elim
    | func f => exact hx.elim
    | global f => exact hx.elim
  | block id x ih =>
    intro Q Q' s hQ hx
    simp only [xawp] at hx
    simp only [awp]
    refine ih _ _ s (fun e s hx => ?_) hx
    cases e with
    | normal => exact hQ _ _ hx
    | exit j =>
      simp only at hx ⊢
      split at hx
      · rename_i e; rw [if_pos e]; exact hQ _ _ hx
      · rename_i e; rw [if_neg e]; exact hQ _ _ hx
    | ret => exact hQ _ _ hx
  | loop x ih =>
    intro Q Q' s hQ hx
    simp only [xawp] at hx
    simp only [awp]
    exact aloop_mono (fun Q Q' s hQ hx => ih Q Q' s hQ hx) hQ hx
  | exit id => intro Q Q' s hQ hx; exact hQ _ _ hx
  | ret => intro Q Q' s hQ hx; exact hQ _ _ hx
  | _ => intro Q Q' s hQ hx; exact hx.elim
end
end Vx

namespace Vx
open Go
set_option linter.unusedVariables false

/-! ## A function, walked -/
def xresRd (ti : TypeId → Option TI) : List ResultVar → (List SV → List Upd → Rd Eff) → Rd Eff
  | [], f => f [] []
  | .tmp t :: r, f => rdS (.tmp t) fun sv => match sv with
    | .c y => takeRow false [y] fun x us => xresRd ti r fun svs vs => f (x :: svs) (us ++ vs)
    | .agg row => takeRow true row fun x us => xresRd ti r fun svs vs => f (x :: svs) (us ++ vs)
    | .tup _ => fail
  | .cell a ty :: r, f => match ti ty with
    | none => fail
    | some i => rdS (.tmp a) fun sv => match sv with
      | .c (.ptr ⟨.obj k, c, []⟩) => .kind k fun kd => match kd with
        | some (.box m) => if c + i.size ≤ m ∧ (i.agg = true ∨ i.size = 1) then readCells k c i.size fun row => takeRow i.agg row fun x us => xresRd ti r fun svs vs => f (x :: svs) (us ++ vs) else fail
        | _ => fail
      | _ => fail
def xpost (ti : TypeId → Option TI) (ts : List ResultVar) (res : SV) (out : List AR) (s : St) : Prop :=
  (xresRd ti ts fun svs us => if distinct (keysOf us) then .ret ⟨pack svs = res, us⟩ else fail).go s [] fun e _ => e.ok ∧ outOK 0 out (s.upds e.upd)

theorem Le.takeRow {b : Bool} {row : List C} {f g : SV → List Upd → Rd Eff} (h : ∀ x us, Le (f x us) (g x us)) : Le (Vx.takeRow b row f) (Vx.takeRow b row g) := by
  refine Le.takeL fun l us => ?_
  split
  · exact h _ _
  · split
    · exact h _ _
    · exact Le.refl _
theorem Le.readCells {k : Nat} : ∀ {n c : Nat} {f g : List C → Rd Eff}, (∀ l, Le (f l) (g l)) → Le (Vx.readCells k c n f) (Vx.readCells k c n g)
  | 0, c, f, g, h => h _
  | n + 1, c, f, g, h => Le.cell fun x _ => Le.readCells fun l => h _
theorem xresRd_le {P : Program} {ti : TypeId → Option TI} (h : TiOK P ti) : ∀ (ts : List ResultVar) {f g : List SV → List Upd → Rd Eff}, (∀ x us, Le (f x us) (g x us)) → Le (xresRd ti ts f) (resRd P ts g)
  | [], f, g, hf => hf _ _
  | .tmp t :: r, f, g, hf => by
    simp only [xresRd, resRd]
    refine Le.rdS fun sv => ?_
    split
    · exact Le.takeRow fun x us => xresRd_le h r fun svs vs => hf _ _
    · exact Le.takeRow fun x us => xresRd_le h r fun svs vs => hf _ _
    · exact Le.refl _
  | .cell a ty :: r, f, g, hf => by
    simp only [xresRd, resRd]
    cases hi : ti ty with
    | none => exact Le.fail _
    | some i =>
      rw [h ty i hi]
      refine Le.rdS fun sv => ?_
      split
      · refine Le.kind fun kd => ?_
        split
        · simp only
          split
          · rename_i hc
            exact Le.readCells fun row => Le.takeRow fun x us => xresRd_le h r fun svs vs => hf _ _
          · exact Le.fail _
        · exact Le.fail _
      · exact Le.fail _
theorem xpost_le {P : Program} {ti : TypeId → Option TI} (h : TiOK P ti) {ts : List ResultVar} {res : SV} {out : List AR} {s : St} (hx : xpost ti ts res out s) : fnPost P ts res out s :=
  xresRd_le h ts (fun _ _ => Le.refl _) s [] _ (fun _ _ h => h.1) hx

theorem tiOK_of {P : Program} : ∀ (tb : List (Nat × TI)), tb.map (fun p => tinfo P p.1) = tb.map (fun p => some p.2) → TiOK P fun t => lk t tb
  | [], _, t, i, h => by cases h
  | (n, x) :: l, e, t, i, h => by
    simp only [List.map_cons, List.cons.injEq] at e
    simp only [lk] at h
    split at h
    · rename_i q; subst q; cases h; exact e.1
    · exact tiOK_of l e.2 t i h

/-- The end of a function that hands out what it has made. -/
def xmade (ts : List ResultVar) (res : SV) (out : List AR) (s : St) : Prop :=
  match ts with
  | [.tmp t] => match s.slot t with
    | .c (.mp k) => match lk k s.mp with
      | some es => (decide (1000 ≤ k) && decide (k ≠ MADE)) = true ∧ res = .c (.mp MADE) ∧ ∃ l, out = l ++ [.mmap es] ∧ l.length ≤ 1000 ∧ outOK 0 l s
      | none => False
    | .c (.ptr ⟨.obj k, 0, []⟩) => match lk k s.ob with
      | some row => (decide (1000 ≤ k) && decide (k ≠ MADE) && row.all C.data) = true ∧ res = .c (.ptr ⟨.obj MADE, 0, []⟩) ∧ ∃ l, out = l ++ [.mbox row] ∧ l.length ≤ 1000 ∧ outOK 0 l s
      | none => False
    | _ => False
  | _ => False
theorem xmade_le {ts : List ResultVar} {res : SV} {out : List AR} {s : St} (h : xmade ts res out s) : madePost ts res out s := by
  unfold xmade at h
  split at h
  · rename_i t
    split at h
    · rename_i k hs
      split at h
      · rename_i es he
        obtain ⟨h1, h2, l, h3, h4, h5⟩ := h
        simp only [Bool.and_eq_true, decide_eq_true_eq] at h1
        exact ⟨t, k, l, rfl, h1.1, h1.2, h4, h5, .inl ⟨hs, h2, es, he, h3⟩⟩
      · exact h.elim
    · rename_i k hs
      split at h
      · rename_i row he
        obtain ⟨h1, h2, l, h3, h4, h5⟩ := h
        simp only [Bool.and_eq_true, decide_eq_true_eq] at h1
        exact ⟨t, k, l, rfl, h1.1.1, h1.1.2, h4, h5, .inr ⟨hs, h2, row, he, h1.2, h3⟩⟩
      · exact h.elim
    · exact h.elim
  · exact h.elim
/-- Where the machine is, at a function's end. -/
def xend (ti : TypeId → Option TI) (ts : List ResultVar) (res : SV) (out : List AR) (ax : AX) (s : St) : Prop :=
  match ax with
  | .exit _ => False
  | _ => xpost ti ts res out s
theorem fn_walk {E : Env} {f : Nat} {fn : Func} {c : Code} (tb : List (Nat × TI)) (mu : Mu) (keep : Kp) {fa : List SV} {rs : List AR} {res : SV} {out : List AR} (hmix : E.P.follows .mixedOrders = true) (htb : tb.map (fun p => tinfo E.P p.1) = tb.map (fun p => some p.2))
    (hf : E.P.funcs[f]? = some fn) (hb : fn.body = some c) (hname : (fn.name == "runtime.NumGoroutine") = false) (hok : okCode fn.ntmps c = true) (hfa : fa.length ≤ fn.ntmps) (hd : res.data = true)
    (h : ∀ (ar : BinOp → IntKind → Int → Int → Int) (cm : BinOp → Int → Int → Bool) (sc : BinOp → ByteArray → ByteArray → Bool) (bc : BinOp → Bool → Bool → Bool) (nt : Bool → Bool) (ng : IntKind → Int → Int)
      (ln : List (List T) → Int) (sz : ByteArray → Int) (tn : Int → Nat) (idx : List (List T) → Int → Option (List T)) (get : List (List T) → Nat → Option (List T)) (set : List (List T) → Nat → List T → List (List T)) (vw : List (List T) → List (List T))
      (rep : Int → Int → List T → Option (List (List T))) (nf : Bool → List (List T) → Bool) (dv : BinOp → IntKind → Int → Int → Option Int) (ct : ByteArray → ByteArray → Option ByteArray) (wr : IntKind → Int → Int) (bt : ByteArray → Int → Option Int) (bs : List (List T) → Option ByteArray) (us : ByteArray → Int → Int → Option ByteArray) (ur : List (List T) → Int → Int → Option (List (List T))) (ap : List (List T) → List (List T) → Option (List (List T))) (fl : List (List T) → Bool) (on : List (List T) → Bool) (mi : List (T × T) → T → Int) (mh : List (T × T) → T → Bool) (ms : List (T × T) → T → T → List (T × T)) (mo : KK → IntKind → List (T × T) → Bool) (mx : Int → Int → Int) (mn : Int → Int → Int) (R : Rel) (r : SV), (⟨ar, cm, sc, bc, nt, ng, ln, sz, tn, idx, get, set, vw, rep, nf, dv, ct, wr, bt, bs, us, ur, ap, fl, on, mi, mh, ms, mo, mx, mn⟩ : Pm) = Pm.real → R = Returns E → r = res →
      xawp ⟨ar, cm, sc, bc, nt, ng, ln, sz, tn, idx, get, set, vw, rep, nf, dv, ct, wr, bt, bs, us, ur, ap, fl, on, mi, mh, ms, mo, mx, mn⟩ (fun t => lk t tb) mu R keep c (xend (fun t => lk t tb) fn.results.toList r out) (entrySt fa rs)) : Returns E f fa rs res out := by
  have hti := tiOK_of tb htb
  refine fn_returns (keep := keep) hmix (step1_ok E _) hf hb hname hok hfa hd (xawp_le hti c _ _ _ (fun ax s hq => ?_) (h _ _ _ _ _ _ _ _ _ _ _ _ _ _ _ _ _ _ _ _ _ _ _ _ _ _ _ _ _ _ _ _ _ rfl rfl rfl))
  cases ax with
  | normal => exact xpost_le hti hq
  | exit id => exact hq
  | ret => exact xpost_le hti hq
def xendM (ts : List ResultVar) (res : SV) (out : List AR) (ax : AX) (s : St) : Prop :=
  match ax with
  | .exit _ => False
  | _ => xmade ts res out s
theorem fn_walkM {E : Env} {f : Nat} {fn : Func} {c : Code} (tb : List (Nat × TI)) (mu : Mu) (keep : Kp) {fa : List SV} {rs : List AR} {res : SV} {out : List AR} (hmix : E.P.follows .mixedOrders = true) (htb : tb.map (fun p => tinfo E.P p.1) = tb.map (fun p => some p.2))
    (hf : E.P.funcs[f]? = some fn) (hb : fn.body = some c) (hname : (fn.name == "runtime.NumGoroutine") = false) (hok : okCode fn.ntmps c = true) (hfa : fa.length ≤ fn.ntmps)
    (h : ∀ (ar : BinOp → IntKind → Int → Int → Int) (cm : BinOp → Int → Int → Bool) (sc : BinOp → ByteArray → ByteArray → Bool) (bc : BinOp → Bool → Bool → Bool) (nt : Bool → Bool) (ng : IntKind → Int → Int)
      (ln : List (List T) → Int) (sz : ByteArray → Int) (tn : Int → Nat) (idx : List (List T) → Int → Option (List T)) (get : List (List T) → Nat → Option (List T)) (set : List (List T) → Nat → List T → List (List T)) (vw : List (List T) → List (List T))
      (rep : Int → Int → List T → Option (List (List T))) (nf : Bool → List (List T) → Bool) (dv : BinOp → IntKind → Int → Int → Option Int) (ct : ByteArray → ByteArray → Option ByteArray) (wr : IntKind → Int → Int) (bt : ByteArray → Int → Option Int) (bs : List (List T) → Option ByteArray) (us : ByteArray → Int → Int → Option ByteArray) (ur : List (List T) → Int → Int → Option (List (List T))) (ap : List (List T) → List (List T) → Option (List (List T))) (fl : List (List T) → Bool) (on : List (List T) → Bool) (mi : List (T × T) → T → Int) (mh : List (T × T) → T → Bool) (ms : List (T × T) → T → T → List (T × T)) (mo : KK → IntKind → List (T × T) → Bool) (mx : Int → Int → Int) (mn : Int → Int → Int) (R : Rel) (r : SV), (⟨ar, cm, sc, bc, nt, ng, ln, sz, tn, idx, get, set, vw, rep, nf, dv, ct, wr, bt, bs, us, ur, ap, fl, on, mi, mh, ms, mo, mx, mn⟩ : Pm) = Pm.real → R = Returns E → r = res →
      xawp ⟨ar, cm, sc, bc, nt, ng, ln, sz, tn, idx, get, set, vw, rep, nf, dv, ct, wr, bt, bs, us, ur, ap, fl, on, mi, mh, ms, mo, mx, mn⟩ (fun t => lk t tb) mu R keep c (xendM fn.results.toList r out) (entrySt fa rs)) : Returns E f fa rs res out := by
  have hti := tiOK_of tb htb
  refine fn_made (keep := keep) hmix (step1_ok E _) hf hb hname hok hfa (xawp_le hti c _ _ _ (fun ax s hq => ?_) (h _ _ _ _ _ _ _ _ _ _ _ _ _ _ _ _ _ _ _ _ _ _ _ _ _ _ _ _ _ _ _ _ _ rfl rfl rfl))
  cases ax with
  | normal => exact xmade_le hq
  | exit id => exact hq
  | ret => exact xmade_le hq
end Vx
namespace Vx
open Go
/-- A loop: the state at each round's head is `S a`, `J` holds of `a`, and `m` falls. -/
theorem aloop_inv {α : Type} {body : (AX → St → Prop) → St → Prop} {Q : AX → St → Prop} {s : St} (kl ol : List Nat) (S : α → St) (J : α → Prop) (m : α → Nat) (a0 : α) (hJ : J a0) (h0 : s.only kl ol = S a0)
    (hb : ∀ a, J a → body (fun e s2 => match e with | .normal => ∃ a', J a' ∧ m a' < m a ∧ s2.only kl ol = S a' | e => Q e s2) (S a)) : aloop body Q s := by
  refine ⟨kl, ol, fun n s => ∃ a, J a ∧ n = m a ∧ s = S a, ⟨m a0, a0, hJ, rfl, h0⟩, ?_⟩
  rintro n s ⟨a, hJa, rfl, rfl⟩
  refine (congrArg (fun q => body q (S a)) ?_).mp (hb a hJa)
  funext e s2
  cases e with
  | normal =>
    refine propext ⟨?_, ?_⟩
    · rintro ⟨a', h1, h2, h3⟩; exact ⟨_, h2, a', h1, rfl, h3⟩
    · rintro ⟨_, h1, a', h2, rfl, h3⟩; exact ⟨a', h2, h1, h3⟩
  | _ => rfl
end Vx
namespace Vx
open Go
/-- A number, as an integer; a name of its own, so that it stays as it is in a walk. -/
def I (n : Nat) : Int := n
theorem I_def (n : Nat) : I n = n := rfl
/-- What the names stand for. -/
structure PF (ar : BinOp → IntKind → Int → Int → Int) (cm : BinOp → Int → Int → Bool) (sc : BinOp → ByteArray → ByteArray → Bool) (bc : BinOp → Bool → Bool → Bool) (nt : Bool → Bool) (ng : IntKind → Int → Int)
      (ln : List (List T) → Int) (sz : ByteArray → Int) (tn : Int → Nat) (idx : List (List T) → Int → Option (List T)) (get : List (List T) → Nat → Option (List T)) (set : List (List T) → Nat → List T → List (List T)) (vw : List (List T) → List (List T))
      (rep : Int → Int → List T → Option (List (List T))) (nf : Bool → List (List T) → Bool) (dv : BinOp → IntKind → Int → Int → Option Int) (ct : ByteArray → ByteArray → Option ByteArray) (wr : IntKind → Int → Int) (bt : ByteArray → Int → Option Int) (bs : List (List T) → Option ByteArray) (us : ByteArray → Int → Int → Option ByteArray) (ur : List (List T) → Int → Int → Option (List (List T))) (ap : List (List T) → List (List T) → Option (List (List T))) (fl : List (List T) → Bool) (on : List (List T) → Bool) (mi : List (T × T) → T → Int) (mh : List (T × T) → T → Bool) (ms : List (T × T) → T → T → List (T × T)) (mo : KK → IntKind → List (T × T) → Bool) (mx : Int → Int → Int) (mn : Int → Int → Int) : Prop where
  add : ∀ k a b, ar .add k a b = k.wrap (a + b)
  sub : ∀ k a b, ar .sub k a b = k.wrap (a - b)
  mul : ∀ k a b, ar .mul k a b = k.wrap (a * b)
  eql : ∀ a b, cm .eql a b = decide (a = b)
  neq : ∀ a b, cm .neq a b = decide (a ≠ b)
  lss : ∀ a b, cm .lss a b = decide (a < b)
  leq : ∀ a b, cm .leq a b = decide (a ≤ b)
  gtr : ∀ a b, cm .gtr a b = decide (b < a)
  geq : ∀ a b, cm .geq a b = decide (b ≤ a)
  seql : ∀ a b, sc .eql a b = decide (a = b)
  sneq : ∀ a b, sc .neq a b = decide (a ≠ b)
  beql : ∀ a b, bc .eql a b = (a == b)
  bneq : ∀ a b, bc .neq a b = (a != b)
  nt : ∀ b, nt b = !b
  ng : ∀ k n, ng k n = k.wrap (-n)
  ln : ∀ xs, ln xs = I xs.length
  sz : ∀ s, sz s = I s.size
  tn : ∀ i, tn i = i.toNat
  idx : ∀ xs i, idx xs i = if 0 ≤ i then xs[i.toNat]? else none
  get : ∀ xs i, get xs i = xs[i]?
  set : ∀ xs i r, set xs i r = xs.set i r
  vw : ∀ xs, vw xs = T.viewR xs
  rep : ∀ n m r, rep n m r = if 0 ≤ n ∧ n = m ∧ n ≤ (2 ^ 38 : Nat) then some (List.replicate n.toNat r) else none
  nf : ∀ o xs, nf o xs = ((o || xs.isEmpty) && T.noFzR xs)
  slss : ∀ a b, sc .lss a b = Op.bytesLess a.toList b.toList
  sleq : ∀ a b, sc .leq a b = (Op.bytesLess a.toList b.toList || a.toList == b.toList)
  sgtr : ∀ a b, sc .gtr a b = !(Op.bytesLess a.toList b.toList || a.toList == b.toList)
  sgeq : ∀ a b, sc .geq a b = !Op.bytesLess a.toList b.toList
  quo : ∀ k a b, dv .quo k a b = if b ≠ 0 then some (k.wrap (a.tdiv b)) else none
  rem : ∀ k a b, dv .rem k a b = if b ≠ 0 then some (a.tmod b) else none
  ct : ∀ a b, ct a b = if a.size + b.size ≤ LIM then some (a ++ b) else none
  wr : ∀ k n, wr k n = k.wrap n
  bt : ∀ s i, bt s i = byteAt s i
  bs : ∀ xs, bs xs = bytesX xs
  us : ∀ s l h, us s l h = cutStr s l h
  ur : ∀ xs l h, ur xs l h = cutRows xs l h
  ap : ∀ xs ys, ap xs ys = if xs.length + ys.length ≤ LIM then some (xs ++ ys) else none
  fl : ∀ xs, fl xs = flatR xs
  on : ∀ xs, on xs = oneR xs
  mi : ∀ es k, mi es k = mapGet es k
  mh : ∀ es k, mh es k = mapHas es k
  ms : ∀ es k v, ms es k v = mapSet es k v
  mo : ∀ kk ik es, mo kk ik es = mapOK kk ik es
  mx : ∀ a b, mx a b = if b > a then b else a
  mn : ∀ a b, mn a b = if b < a then b else a
theorem PF.of {ar : BinOp → IntKind → Int → Int → Int} {cm : BinOp → Int → Int → Bool} {sc : BinOp → ByteArray → ByteArray → Bool} {bc : BinOp → Bool → Bool → Bool} {nt : Bool → Bool} {ng : IntKind → Int → Int}
      {ln : List (List T) → Int} {sz : ByteArray → Int} {tn : Int → Nat} {idx : List (List T) → Int → Option (List T)} {get : List (List T) → Nat → Option (List T)} {set : List (List T) → Nat → List T → List (List T)} {vw : List (List T) → List (List T)}
      {rep : Int → Int → List T → Option (List (List T))} {nf : Bool → List (List T) → Bool} {dv : BinOp → IntKind → Int → Int → Option Int} {ct : ByteArray → ByteArray → Option ByteArray} {wr : IntKind → Int → Int} {bt : ByteArray → Int → Option Int} {bs : List (List T) → Option ByteArray} {us : ByteArray → Int → Int → Option ByteArray} {ur : List (List T) → Int → Int → Option (List (List T))} {ap : List (List T) → List (List T) → Option (List (List T))} {fl : List (List T) → Bool} {on : List (List T) → Bool} {mi : List (T × T) → T → Int} {mh : List (T × T) → T → Bool} {ms : List (T × T) → T → T → List (T × T)} {mo : KK → IntKind → List (T × T) → Bool} {mx : Int → Int → Int} {mn : Int → Int → Int} (h : (⟨ar, cm, sc, bc, nt, ng, ln, sz, tn, idx, get, set, vw, rep, nf, dv, ct, wr, bt, bs, us, ur, ap, fl, on, mi, mh, ms, mo, mx, mn⟩ : Pm) = Pm.real) : PF ar cm sc bc nt ng ln sz tn idx get set vw rep nf dv ct wr bt bs us ur ap fl on mi mh ms mo mx mn := by
  obtain ⟨rfl, rfl, rfl, rfl, rfl, rfl, rfl, rfl, rfl, rfl, rfl, rfl, rfl, rfl, rfl, rfl, rfl, rfl, rfl, rfl, rfl, rfl, rfl, rfl, rfl, rfl, rfl, rfl, rfl, rfl, rfl⟩ := Pm.mk.inj h
  constructor <;> intros <;> rfl
end Vx

namespace Vx
open Go
set_option linter.unusedVariables false
set_option linter.unusedSimpArgs false

/-! ## Data -/
/-- The greatest length that any list or string of an argument has. -/
abbrev BIG : Nat := 9223372036854775807
class G (α : Type) where
  sz : Nat
  cells : Bool → α → List T
  len : ∀ o x, (cells o x).length = sz
  view : ∀ o x, T.viewL (cells o x) = cells false x
  nofz : ∀ x, T.noFzL (cells true x) = true
  inj : ∀ o x y, cells o x = cells o y → x = y
  tot : α → Nat
  fin : α → Prop
  fine : ∀ x, tot x ≤ 2 ^ 40 → fin x
def rows {α : Type} [G α] (o : Bool) (l : List α) : List (List T) := l.map (G.cells o)
def totL {α : Type} [G α] (l : List α) : Nat := l.length + (l.map G.tot).sum
def finL {α : Type} [G α] (l : List α) : Prop := l.length ≤ BIG ∧ ∀ x ∈ l, G.fin x
section
variable {α : Type} [G α]
theorem rows_length (o : Bool) (l : List α) : (rows o l).length = l.length := by simp [rows]
theorem rows_view (o : Bool) : ∀ l : List α, T.viewR (rows o l) = rows false l
  | [] => rfl
  | x :: l => by
    have := rows_view o l
    simp only [rows] at this
    simp only [rows, List.map_cons, T.viewR, G.view, this]
theorem rows_nofz : ∀ l : List α, T.noFzR (rows true l) = true
  | [] => rfl
  | x :: l => by
    have := rows_nofz l
    simp only [rows] at this
    simp only [rows, List.map_cons, T.noFzR, G.nofz, this, Bool.and_self]
theorem rows_inj (o : Bool) : ∀ l m : List α, rows o l = rows o m → l = m
  | [], [], _ => rfl
  | [], y :: m, h => by simp [rows] at h
  | x :: l, [], h => by simp [rows] at h
  | x :: l, y :: m, h => by
    simp only [rows, List.map_cons, List.cons.injEq] at h
    rw [G.inj o x y h.1, rows_inj o l m h.2]
theorem rows_get (o : Bool) (l : List α) (i : Nat) : (rows o l)[i]? = (l[i]?).map (G.cells o) := by simp [rows]
theorem sum_ge {β : Type} (f : β → Nat) : ∀ (l : List β) (x : β), x ∈ l → f x ≤ (l.map f).sum
  | y :: l, x, h => by
    simp only [List.map_cons, List.sum_cons]
    rcases List.mem_cons.1 h with e | e
    · subst e; omega
    · have := sum_ge f l x e; omega
theorem big_of {n : Nat} (h : n ≤ 2 ^ 40) : n ≤ BIG := Nat.le_trans h (by decide)
theorem totL_fine (l : List α) (h : totL l ≤ 2 ^ 40) : finL l := by
  unfold totL at h
  refine ⟨big_of (by omega), fun x hx => G.fine x ?_⟩
  have : G.tot x ≤ (l.map G.tot).sum := sum_ge _ _ _ hx
  omega
end
theorem bytes_inj {a b : ByteArray} (h : T.str a = T.str b) : a = b := by cases h; rfl
instance : G Int where
  sz := 1
  cells _ n := [.int .i64 n]
  len _ _ := rfl
  view _ _ := rfl
  nofz _ := rfl
  inj _ x y h := by simpa using h
  tot _ := 0
  fin _ := True
  fine _ _ := trivial
instance : G ByteArray where
  sz := 1
  cells _ s := [.str s]
  len _ _ := rfl
  view _ _ := rfl
  nofz _ := rfl
  inj _ x y h := by simpa using h
  tot s := s.size
  fin s := s.size ≤ BIG
  fine s h := big_of h
instance {α : Type} [G α] : G (List α) where
  sz := 1
  cells o l := [.sl o (G.sz α) (rows o l)]
  len _ _ := rfl
  view o l := by simp [T.viewL, T.view, rows_view]
  nofz l := by simp [T.noFzL, T.noFz, rows_nofz]
  inj o x y h := by
    simp only [List.cons.injEq, T.sl.injEq, and_true, true_and] at h
    exact rows_inj o x y h
  tot l := totL l
  fin l := finL l
  fine l h := totL_fine l h
open Classical in
/-- Are they the same? -/
noncomputable def same {α : Type} (x y : α) : Bool := decide (x = y)
theorem same_iff {α : Type} {x y : α} : same x y = true ↔ x = y := by simp [same]
theorem same_self {α : Type} (x : α) : same x x = true := by simp [same]
theorem same_false {α : Type} {x y : α} : same x y = false ↔ x ≠ y := by simp [same]
/-- What is left when `n` is taken from `left`. -/
def szv (n : Nat) (left : Int) : Int := if (n : Int) ≤ left then left - n else -1
theorem wrap_id {x : Int} (h1 : -2 ^ 63 ≤ x) (h2 : x < 2 ^ 63) : IntKind.i64.wrap x = x := by rw [IntKind.wrap_i64]; omega
end Vx
namespace Vx
theorem sum_take_le {β : Type} (f : β → Nat) : ∀ (l : List β) (k : Nat), ((l.take k).map f).sum ≤ (l.map f).sum
  | [], k => by simp
  | x :: l, 0 => by simp
  | x :: l, k + 1 => by have := sum_take_le f l k; simp only [List.take_succ_cons, List.map_cons, List.sum_cons]; omega
theorem sum_take_succ {β : Type} (f : β → Nat) : ∀ (l : List β) (k : Nat) (h : k < l.length), ((l.take (k + 1)).map f).sum = ((l.take k).map f).sum + f l[k]
  | x :: l, 0, h => by simp
  | x :: l, k + 1, h => by
    have := sum_take_succ f l k (by simpa using h)
    simp only [List.take_succ_cons, List.map_cons, List.sum_cons, List.getElem_cons_succ]
    omega
end Vx
namespace Vx
open Go
theorem szv_neg {n : Nat} {u v : Int} (hv : szv n u = v) (h : v < 0) : v = -1 ∧ (u < 0 ∨ u < I n) := by
  unfold szv at hv; unfold I; split at hv <;> omega
theorem szv_pos {n : Nat} {u v : Int} (hv : szv n u = v) (h : ¬ v < 0) : I n ≤ u ∧ v = u - I n := by
  unfold szv at hv; unfold I; split at hv <;> omega
theorem szv_is_neg {n : Nat} {u : Int} (h : u < I n) : szv n u = -1 := by unfold szv; unfold I at h; rw [if_neg (by omega)]
theorem szv_is {n : Nat} {u : Int} (h : I n ≤ u) : szv n u = u - I n := by unfold szv; unfold I at *; rw [if_pos (by omega)]
/-- A list that is being copied: so many are done. -/
def mid {α : Type} [G α] (l : List α) (k : Nat) (z : List T) : List (List T) := rows true (l.take k) ++ List.replicate (l.length - k) z
section
variable {α : Type} [G α] (l : List α) (z : List T)
theorem mid_zero : mid l 0 z = List.replicate l.length z := by simp [mid, rows]
theorem mid_all : mid l l.length z = rows true l := by simp [mid]
theorem mid_get (k : Nat) (h : k < l.length) : (mid l k z)[k]? = some z := by
  unfold mid
  have hl : (rows true (l.take k)).length = k := by rw [rows_length]; simp; omega
  rw [List.getElem?_append_right (by omega), hl, Nat.sub_self, List.getElem?_replicate, if_pos (by omega)]
theorem mid_set (k : Nat) (h : k < l.length) : (mid l k z).set k (G.cells true l[k]) = mid l (k + 1) z := by
  apply List.ext_getElem?
  intro i
  unfold mid
  have hl : (rows true (l.take k)).length = k := by rw [rows_length]; simp; omega
  have hl2 : (rows true (l.take (k + 1))).length = k + 1 := by rw [rows_length]; simp; omega
  by_cases e : k = i
  · subst e
    rw [List.getElem?_set_self (by simp [hl]; omega), List.getElem?_append_left (by omega), rows_get]
    simp [h]
  · rw [List.getElem?_set_ne e]
    by_cases hlt : i < k
    · rw [List.getElem?_append_left (by omega), List.getElem?_append_left (by omega), rows_get, rows_get, List.getElem?_take, List.getElem?_take, if_pos hlt, if_pos (by omega)]
    · rw [List.getElem?_append_right (by omega), List.getElem?_append_right (by omega), hl, hl2, List.getElem?_replicate, List.getElem?_replicate]
      by_cases q : i < l.length
      · rw [if_pos (by omega), if_pos (by omega)]
      · rw [if_neg (by omega), if_neg (by omega)]
theorem take_eq_succ {β : Type} {l m : List β} {k : Nat} (h : l.take k = m.take k) (h1 : k < l.length) (h2 : k < m.length) (e : l[k] = m[k]) : l.take (k + 1) = m.take (k + 1) := by
  rw [List.take_add_one, List.take_add_one, h, List.getElem?_eq_getElem h1, List.getElem?_eq_getElem h2, e]
end
end Vx
namespace Vx
theorem tot_mem {α : Type} [G α] {l : List α} {x : α} (h : x ∈ l) : G.tot x ≤ totL l := by
  have := sum_ge G.tot l x h
  unfold totL
  omega
theorem len_tot {α : Type} [G α] (l : List α) : l.length ≤ totL l := by unfold totL; omega
end Vx

namespace Vx
open Go
set_option linter.unusedVariables false
set_option linter.unusedSimpArgs false
/-! ## The types of the program, cell by cell -/
namespace D
structure Expr where
  kind : Int
  name : ByteArray
  args : List Expr
mutual
def Expr.cellsE (o : Bool) : Expr → List T
  | ⟨k, n, as⟩ => [.int .i64 k, .str n, .sl o 3 (Expr.rowsE o as)]
def Expr.rowsE (o : Bool) : List Expr → List (List T)
  | [] => []
  | x :: l => Expr.cellsE o x :: Expr.rowsE o l
end
mutual
def Expr.totE : Expr → Nat
  | ⟨_, n, as⟩ => n.size + Expr.totsE as
def Expr.totsE : List Expr → Nat
  | [] => 0
  | x :: l => 1 + Expr.totE x + Expr.totsE l
end
inductive Expr.FinE : Expr → Prop
  | mk {k n as} (h1 : n.size ≤ BIG) (h2 : as.length ≤ BIG) (h3 : ∀ x ∈ as, Expr.FinE x) : Expr.FinE ⟨k, n, as⟩
theorem Expr.rowsE_eq (o : Bool) : ∀ l, Expr.rowsE o l = l.map (Expr.cellsE o)
  | [] => rfl
  | x :: l => by rw [Expr.rowsE, Expr.rowsE_eq o l]; rfl
theorem Expr.totsE_eq : ∀ l, Expr.totsE l = l.length + (l.map Expr.totE).sum
  | [] => rfl
  | x :: l => by rw [Expr.totsE, Expr.totsE_eq l]; simp; omega
/-- Induction on the depth. -/
theorem Expr.ind {P : Expr → Prop} (h : ∀ k n as, (∀ x ∈ as, P x) → P ⟨k, n, as⟩) : ∀ e, P e
  | ⟨k, n, as⟩ => h k n as fun x _ => Expr.ind h x
theorem Expr.lenE (o : Bool) (e : Expr) : (Expr.cellsE o e).length = 3 := by cases e; rfl
theorem Expr.viewE (o : Bool) : ∀ e, T.viewL (Expr.cellsE o e) = Expr.cellsE false e := by
  refine Expr.ind fun k n as ih => ?_
  have : ∀ l : List Expr, (∀ x ∈ l, T.viewL (Expr.cellsE o x) = Expr.cellsE false x) → T.viewR (Expr.rowsE o l) = Expr.rowsE false l := by
    intro l
    induction l with
    | nil => intro _; rfl
    | cons x l ih => intro h; simp only [Expr.rowsE, T.viewR, h x (by simp), ih fun y hy => h y (by simp [hy])]
  simp only [Expr.cellsE, T.viewL, T.view, this as ih]
theorem Expr.nofzE : ∀ e, T.noFzL (Expr.cellsE true e) = true := by
  refine Expr.ind fun k n as ih => ?_
  have : ∀ l : List Expr, (∀ x ∈ l, T.noFzL (Expr.cellsE true x) = true) → T.noFzR (Expr.rowsE true l) = true := by
    intro l
    induction l with
    | nil => intro _; rfl
    | cons x l ih => intro h; simp only [Expr.rowsE, T.noFzR, h x (by simp), ih fun y hy => h y (by simp [hy]), Bool.and_self]
  simp only [Expr.cellsE, T.noFzL, T.noFz, this as ih, Bool.true_or, Bool.and_self]
theorem Expr.injE (o : Bool) : ∀ x y, Expr.cellsE o x = Expr.cellsE o y → x = y := by
  refine Expr.ind fun k n as ih => ?_
  rintro ⟨k', n', bs⟩ h
  simp only [Expr.cellsE, List.cons.injEq, T.int.injEq, T.str.injEq, T.sl.injEq, true_and, and_true] at h
  have : ∀ l m : List Expr, (∀ x ∈ l, ∀ y, Expr.cellsE o x = Expr.cellsE o y → x = y) → Expr.rowsE o l = Expr.rowsE o m → l = m := by
    intro l
    induction l with
    | nil => intro m _ h; cases m <;> simp [Expr.rowsE] at h ⊢
    | cons x l ih =>
      intro m hx h
      cases m with
      | nil => simp [Expr.rowsE] at h
      | cons y m =>
        simp only [Expr.rowsE, List.cons.injEq] at h
        rw [hx x (by simp) y h.1, ih m (fun z hz => hx z (by simp [hz])) h.2]
  rw [h.1, h.2.1, this as bs ih h.2.2]
theorem Expr.fineE : ∀ e, Expr.totE e ≤ 2 ^ 40 → Expr.FinE e := by
  refine Expr.ind fun k n as ih => ?_
  intro h
  simp only [Expr.totE, Expr.totsE_eq] at h
  refine .mk (big_of (by omega)) (big_of (by omega)) fun x hx => ih x hx ?_
  have : Expr.totE x ≤ (as.map Expr.totE).sum := sum_ge _ _ _ hx
  omega
theorem Expr.ext_of {x y : Expr} (h0 : x.kind = y.kind) (h1 : x.name = y.name) (h2 : x.args = y.args) : x = y := by cases x; cases y; simp_all
instance : G Expr where
  sz := 3
  cells := Expr.cellsE
  len := Expr.lenE
  view := Expr.viewE
  nofz := Expr.nofzE
  inj := Expr.injE
  tot := Expr.totE
  fin := Expr.FinE
  fine := Expr.fineE
theorem Expr.cells (o : Bool) (e : Expr) : G.cells o e = [.int .i64 e.kind, .str e.name, .sl o 3 (rows o e.args)] := by
  obtain ⟨k, n, as⟩ := e
  show Expr.cellsE o _ = _
  rw [Expr.cellsE, Expr.rowsE_eq]
  rfl
theorem Expr.tot (e : Expr) : G.tot e = e.name.size + totL e.args := by
  obtain ⟨k, n, as⟩ := e
  show Expr.totE _ = _
  rw [Expr.totE, Expr.totsE_eq]
  rfl
theorem Expr.fin (e : Expr) : G.fin e ↔ e.name.size ≤ BIG ∧ finL e.args := by
  obtain ⟨k, n, as⟩ := e
  constructor
  · rintro ⟨h1, h2, h3⟩; exact ⟨h1, h2, h3⟩
  · rintro ⟨h1, h2, h3⟩; exact .mk h1 h2 h3
structure Rule where
  name : ByteArray
  con : ByteArray
  vars : List ByteArray
  params : List ByteArray
  body : Expr
def Rule.cellsF (o : Bool) (x : Rule) : List T := [.str x.name, .str x.con, .sl o 1 (rows o x.vars), .sl o 1 (rows o x.params), .int .i64 x.body.kind, .str x.body.name, .sl o 3 (rows o x.body.args)]
theorem Rule.ext_of {x y : Rule} (h0 : x.name = y.name) (h1 : x.con = y.con) (h2 : x.vars = y.vars) (h3 : x.params = y.params) (h4 : x.body = y.body) : x = y := by cases x; cases y; simp_all
instance : G Rule where
  sz := 7
  cells := Rule.cellsF
  len _ _ := rfl
  view o x := by simp [Rule.cellsF, T.viewL, T.view, rows_view]
  nofz x := by simp [Rule.cellsF, T.noFzL, T.noFz, rows_nofz]
  inj o x y h := by
    simp only [Rule.cellsF, List.cons.injEq, T.int.injEq, T.str.injEq, T.bool.injEq, T.sl.injEq, true_and, and_true] at h
    obtain ⟨h0, h1, h2, h3, h4, h5, h6⟩ := h
    exact Rule.ext_of (h0) (h1) (rows_inj o _ _ h2) (rows_inj o _ _ h3) (Expr.ext_of (h4) (h5) (rows_inj o _ _ h6))
  tot x := x.name.size + x.con.size + totL x.vars + totL x.params + G.tot x.body
  fin x := x.name.size ≤ BIG ∧ x.con.size ≤ BIG ∧ finL x.vars ∧ finL x.params ∧ G.fin x.body
  fine x h := ⟨big_of (by omega), big_of (by omega), totL_fine _ (by omega), totL_fine _ (by omega), G.fine _ (by omega)⟩
theorem Rule.cells (o : Bool) (x : Rule) : G.cells o x = [.str x.name, .str x.con, .sl o 1 (rows o x.vars), .sl o 1 (rows o x.params), .int .i64 x.body.kind, .str x.body.name, .sl o 3 (rows o x.body.args)] := rfl
theorem Rule.tot (x : Rule) : G.tot x = x.name.size + x.con.size + totL x.vars + totL x.params + G.tot x.body := rfl
structure Program where
  rules : List Rule
def Program.cellsF (o : Bool) (x : Program) : List T := [.sl o 7 (rows o x.rules)]
theorem Program.ext_of {x y : Program} (h0 : x.rules = y.rules) : x = y := by cases x; cases y; simp_all
instance : G Program where
  sz := 1
  cells := Program.cellsF
  len _ _ := rfl
  view o x := by simp [Program.cellsF, T.viewL, T.view, rows_view]
  nofz x := by simp [Program.cellsF, T.noFzL, T.noFz, rows_nofz]
  inj o x y h := by
    simp only [Program.cellsF, List.cons.injEq, T.int.injEq, T.str.injEq, T.bool.injEq, T.sl.injEq, true_and, and_true] at h
    have h0 := h
    exact Program.ext_of (rows_inj o _ _ h0)
  tot x := totL x.rules
  fin x := finL x.rules
  fine x h := totL_fine _ (by omega)
theorem Program.cells (o : Bool) (x : Program) : G.cells o x = [.sl o 7 (rows o x.rules)] := rfl
theorem Program.tot (x : Program) : G.tot x = totL x.rules := rfl
structure Binding where
  name : ByteArray
  value : Expr
def Binding.cellsF (o : Bool) (x : Binding) : List T := [.str x.name, .int .i64 x.value.kind, .str x.value.name, .sl o 3 (rows o x.value.args)]
theorem Binding.ext_of {x y : Binding} (h0 : x.name = y.name) (h1 : x.value = y.value) : x = y := by cases x; cases y; simp_all
instance : G Binding where
  sz := 4
  cells := Binding.cellsF
  len _ _ := rfl
  view o x := by simp [Binding.cellsF, T.viewL, T.view, rows_view]
  nofz x := by simp [Binding.cellsF, T.noFzL, T.noFz, rows_nofz]
  inj o x y h := by
    simp only [Binding.cellsF, List.cons.injEq, T.int.injEq, T.str.injEq, T.bool.injEq, T.sl.injEq, true_and, and_true] at h
    obtain ⟨h0, h1, h2, h3⟩ := h
    exact Binding.ext_of (h0) (Expr.ext_of (h1) (h2) (rows_inj o _ _ h3))
  tot x := x.name.size + G.tot x.value
  fin x := x.name.size ≤ BIG ∧ G.fin x.value
  fine x h := ⟨big_of (by omega), G.fine _ (by omega)⟩
theorem Binding.cells (o : Bool) (x : Binding) : G.cells o x = [.str x.name, .int .i64 x.value.kind, .str x.value.name, .sl o 3 (rows o x.value.args)] := rfl
theorem Binding.tot (x : Binding) : G.tot x = x.name.size + G.tot x.value := rfl
structure Outcome where
  status : Int
  value : Expr
  steps : Int
def Outcome.cellsF (o : Bool) (x : Outcome) : List T := [.int .i64 x.status, .int .i64 x.value.kind, .str x.value.name, .sl o 3 (rows o x.value.args), .int .i64 x.steps]
theorem Outcome.ext_of {x y : Outcome} (h0 : x.status = y.status) (h1 : x.value = y.value) (h2 : x.steps = y.steps) : x = y := by cases x; cases y; simp_all
instance : G Outcome where
  sz := 5
  cells := Outcome.cellsF
  len _ _ := rfl
  view o x := by simp [Outcome.cellsF, T.viewL, T.view, rows_view]
  nofz x := by simp [Outcome.cellsF, T.noFzL, T.noFz, rows_nofz]
  inj o x y h := by
    simp only [Outcome.cellsF, List.cons.injEq, T.int.injEq, T.str.injEq, T.bool.injEq, T.sl.injEq, true_and, and_true] at h
    obtain ⟨h0, h1, h2, h3, h4⟩ := h
    exact Outcome.ext_of (h0) (Expr.ext_of (h1) (h2) (rows_inj o _ _ h3)) (h4)
  tot x := G.tot x.value
  fin x := G.fin x.value
  fine x h := G.fine _ (by omega)
theorem Outcome.cells (o : Bool) (x : Outcome) : G.cells o x = [.int .i64 x.status, .int .i64 x.value.kind, .str x.value.name, .sl o 3 (rows o x.value.args), .int .i64 x.steps] := rfl
theorem Outcome.tot (x : Outcome) : G.tot x = G.tot x.value := rfl
structure General where
  term : Expr
  first : List Binding
  second : List Binding
def General.cellsF (o : Bool) (x : General) : List T := [.int .i64 x.term.kind, .str x.term.name, .sl o 3 (rows o x.term.args), .sl o 4 (rows o x.first), .sl o 4 (rows o x.second)]
theorem General.ext_of {x y : General} (h0 : x.term = y.term) (h1 : x.first = y.first) (h2 : x.second = y.second) : x = y := by cases x; cases y; simp_all
instance : G General where
  sz := 5
  cells := General.cellsF
  len _ _ := rfl
  view o x := by simp [General.cellsF, T.viewL, T.view, rows_view]
  nofz x := by simp [General.cellsF, T.noFzL, T.noFz, rows_nofz]
  inj o x y h := by
    simp only [General.cellsF, List.cons.injEq, T.int.injEq, T.str.injEq, T.bool.injEq, T.sl.injEq, true_and, and_true] at h
    obtain ⟨h0, h1, h2, h3, h4⟩ := h
    exact General.ext_of (Expr.ext_of (h0) (h1) (rows_inj o _ _ h2)) (rows_inj o _ _ h3) (rows_inj o _ _ h4)
  tot x := G.tot x.term + totL x.first + totL x.second
  fin x := G.fin x.term ∧ finL x.first ∧ finL x.second
  fine x h := ⟨G.fine _ (by omega), totL_fine _ (by omega), totL_fine _ (by omega)⟩
theorem General.cells (o : Bool) (x : General) : G.cells o x = [.int .i64 x.term.kind, .str x.term.name, .sl o 3 (rows o x.term.args), .sl o 4 (rows o x.first), .sl o 4 (rows o x.second)] := rfl
theorem General.tot (x : General) : G.tot x = G.tot x.term + totL x.first + totL x.second := rfl
structure Branch where
  expr : Expr
  var : ByteArray
  con : ByteArray
  vars : List ByteArray
def Branch.cellsF (o : Bool) (x : Branch) : List T := [.int .i64 x.expr.kind, .str x.expr.name, .sl o 3 (rows o x.expr.args), .str x.var, .str x.con, .sl o 1 (rows o x.vars)]
theorem Branch.ext_of {x y : Branch} (h0 : x.expr = y.expr) (h1 : x.var = y.var) (h2 : x.con = y.con) (h3 : x.vars = y.vars) : x = y := by cases x; cases y; simp_all
instance : G Branch where
  sz := 6
  cells := Branch.cellsF
  len _ _ := rfl
  view o x := by simp [Branch.cellsF, T.viewL, T.view, rows_view]
  nofz x := by simp [Branch.cellsF, T.noFzL, T.noFz, rows_nofz]
  inj o x y h := by
    simp only [Branch.cellsF, List.cons.injEq, T.int.injEq, T.str.injEq, T.bool.injEq, T.sl.injEq, true_and, and_true] at h
    obtain ⟨h0, h1, h2, h3, h4, h5⟩ := h
    exact Branch.ext_of (Expr.ext_of (h0) (h1) (rows_inj o _ _ h2)) (h3) (h4) (rows_inj o _ _ h5)
  tot x := G.tot x.expr + x.var.size + x.con.size + totL x.vars
  fin x := G.fin x.expr ∧ x.var.size ≤ BIG ∧ x.con.size ≤ BIG ∧ finL x.vars
  fine x h := ⟨G.fine _ (by omega), big_of (by omega), big_of (by omega), totL_fine _ (by omega)⟩
theorem Branch.cells (o : Bool) (x : Branch) : G.cells o x = [.int .i64 x.expr.kind, .str x.expr.name, .sl o 3 (rows o x.expr.args), .str x.var, .str x.con, .sl o 1 (rows o x.vars)] := rfl
theorem Branch.tot (x : Branch) : G.tot x = G.tot x.expr + x.var.size + x.con.size + totL x.vars := rfl
structure Node where
  kind : Int
  expr : Expr
  parent : Int
  children : List Int
  var : ByteArray
  con : ByteArray
  vars : List ByteArray
  lets : List Binding
  back : Int
def Node.cellsF (o : Bool) (x : Node) : List T := [.int .i64 x.kind, .int .i64 x.expr.kind, .str x.expr.name, .sl o 3 (rows o x.expr.args), .int .i64 x.parent, .sl o 1 (rows o x.children), .str x.var, .str x.con, .sl o 1 (rows o x.vars), .sl o 4 (rows o x.lets), .int .i64 x.back]
theorem Node.ext_of {x y : Node} (h0 : x.kind = y.kind) (h1 : x.expr = y.expr) (h2 : x.parent = y.parent) (h3 : x.children = y.children) (h4 : x.var = y.var) (h5 : x.con = y.con) (h6 : x.vars = y.vars) (h7 : x.lets = y.lets) (h8 : x.back = y.back) : x = y := by cases x; cases y; simp_all
instance : G Node where
  sz := 11
  cells := Node.cellsF
  len _ _ := rfl
  view o x := by simp [Node.cellsF, T.viewL, T.view, rows_view]
  nofz x := by simp [Node.cellsF, T.noFzL, T.noFz, rows_nofz]
  inj o x y h := by
    simp only [Node.cellsF, List.cons.injEq, T.int.injEq, T.str.injEq, T.bool.injEq, T.sl.injEq, true_and, and_true] at h
    obtain ⟨h0, h1, h2, h3, h4, h5, h6, h7, h8, h9, h10⟩ := h
    exact Node.ext_of (h0) (Expr.ext_of (h1) (h2) (rows_inj o _ _ h3)) (h4) (rows_inj o _ _ h5) (h6) (h7) (rows_inj o _ _ h8) (rows_inj o _ _ h9) (h10)
  tot x := G.tot x.expr + totL x.children + x.var.size + x.con.size + totL x.vars + totL x.lets
  fin x := G.fin x.expr ∧ finL x.children ∧ x.var.size ≤ BIG ∧ x.con.size ≤ BIG ∧ finL x.vars ∧ finL x.lets
  fine x h := ⟨G.fine _ (by omega), totL_fine _ (by omega), big_of (by omega), big_of (by omega), totL_fine _ (by omega), totL_fine _ (by omega)⟩
theorem Node.cells (o : Bool) (x : Node) : G.cells o x = [.int .i64 x.kind, .int .i64 x.expr.kind, .str x.expr.name, .sl o 3 (rows o x.expr.args), .int .i64 x.parent, .sl o 1 (rows o x.children), .str x.var, .str x.con, .sl o 1 (rows o x.vars), .sl o 4 (rows o x.lets), .int .i64 x.back] := rfl
theorem Node.tot (x : Node) : G.tot x = G.tot x.expr + totL x.children + x.var.size + x.con.size + totL x.vars + totL x.lets := rfl
structure Tree where
  nodes : List Node
def Tree.cellsF (o : Bool) (x : Tree) : List T := [.sl o 11 (rows o x.nodes)]
theorem Tree.ext_of {x y : Tree} (h0 : x.nodes = y.nodes) : x = y := by cases x; cases y; simp_all
instance : G Tree where
  sz := 1
  cells := Tree.cellsF
  len _ _ := rfl
  view o x := by simp [Tree.cellsF, T.viewL, T.view, rows_view]
  nofz x := by simp [Tree.cellsF, T.noFzL, T.noFz, rows_nofz]
  inj o x y h := by
    simp only [Tree.cellsF, List.cons.injEq, T.int.injEq, T.str.injEq, T.bool.injEq, T.sl.injEq, true_and, and_true] at h
    have h0 := h
    exact Tree.ext_of (rows_inj o _ _ h0)
  tot x := totL x.nodes
  fin x := finL x.nodes
  fine x h := totL_fine _ (by omega)
theorem Tree.cells (o : Bool) (x : Tree) : G.cells o x = [.sl o 11 (rows o x.nodes)] := rfl
theorem Tree.tot (x : Tree) : G.tot x = totL x.nodes := rfl
structure Residual where
  program : Program
  start : Expr
def Residual.cellsF (o : Bool) (x : Residual) : List T := [.sl o 7 (rows o x.program.rules), .int .i64 x.start.kind, .str x.start.name, .sl o 3 (rows o x.start.args)]
theorem Residual.ext_of {x y : Residual} (h0 : x.program = y.program) (h1 : x.start = y.start) : x = y := by cases x; cases y; simp_all
instance : G Residual where
  sz := 4
  cells := Residual.cellsF
  len _ _ := rfl
  view o x := by simp [Residual.cellsF, T.viewL, T.view, rows_view]
  nofz x := by simp [Residual.cellsF, T.noFzL, T.noFz, rows_nofz]
  inj o x y h := by
    simp only [Residual.cellsF, List.cons.injEq, T.int.injEq, T.str.injEq, T.bool.injEq, T.sl.injEq, true_and, and_true] at h
    obtain ⟨h0, h1, h2, h3⟩ := h
    exact Residual.ext_of (Program.ext_of (rows_inj o _ _ h0)) (Expr.ext_of (h1) (h2) (rows_inj o _ _ h3))
  tot x := G.tot x.program + G.tot x.start
  fin x := G.fin x.program ∧ G.fin x.start
  fine x h := ⟨G.fine _ (by omega), G.fine _ (by omega)⟩
theorem Residual.cells (o : Bool) (x : Residual) : G.cells o x = [.sl o 7 (rows o x.program.rules), .int .i64 x.start.kind, .str x.start.name, .sl o 3 (rows o x.start.args)] := rfl
theorem Residual.tot (x : Residual) : G.tot x = G.tot x.program + G.tot x.start := rfl
structure Shape where
  name : ByteArray
  arity : Int
def Shape.cellsF (o : Bool) (x : Shape) : List T := [.str x.name, .int .i64 x.arity]
theorem Shape.ext_of {x y : Shape} (h0 : x.name = y.name) (h1 : x.arity = y.arity) : x = y := by cases x; cases y; simp_all
instance : G Shape where
  sz := 2
  cells := Shape.cellsF
  len _ _ := rfl
  view o x := by simp [Shape.cellsF, T.viewL, T.view, rows_view]
  nofz x := by simp [Shape.cellsF, T.noFzL, T.noFz, rows_nofz]
  inj o x y h := by
    simp only [Shape.cellsF, List.cons.injEq, T.int.injEq, T.str.injEq, T.bool.injEq, T.sl.injEq, true_and, and_true] at h
    obtain ⟨h0, h1⟩ := h
    exact Shape.ext_of (h0) (h1)
  tot x := x.name.size
  fin x := x.name.size ≤ BIG
  fine x h := big_of (by omega)
theorem Shape.cells (o : Bool) (x : Shape) : G.cells o x = [.str x.name, .int .i64 x.arity] := rfl
theorem Shape.tot (x : Shape) : G.tot x = x.name.size := rfl
structure Comparison where
  cases : Int
  same : Int
  opens : Int
  source : Int
  target : Int
def Comparison.cellsF (o : Bool) (x : Comparison) : List T := [.int .i64 x.cases, .int .i64 x.same, .int .i64 x.opens, .int .i64 x.source, .int .i64 x.target]
theorem Comparison.ext_of {x y : Comparison} (h0 : x.cases = y.cases) (h1 : x.same = y.same) (h2 : x.opens = y.opens) (h3 : x.source = y.source) (h4 : x.target = y.target) : x = y := by cases x; cases y; simp_all
instance : G Comparison where
  sz := 5
  cells := Comparison.cellsF
  len _ _ := rfl
  view o x := by simp [Comparison.cellsF, T.viewL, T.view, rows_view]
  nofz x := by simp [Comparison.cellsF, T.noFzL, T.noFz, rows_nofz]
  inj o x y h := by
    simp only [Comparison.cellsF, List.cons.injEq, T.int.injEq, T.str.injEq, T.bool.injEq, T.sl.injEq, true_and, and_true] at h
    obtain ⟨h0, h1, h2, h3, h4⟩ := h
    exact Comparison.ext_of (h0) (h1) (h2) (h3) (h4)
  tot x := 0
  fin x := True
  fine _ _ := trivial
theorem Comparison.cells (o : Bool) (x : Comparison) : G.cells o x = [.int .i64 x.cases, .int .i64 x.same, .int .i64 x.opens, .int .i64 x.source, .int .i64 x.target] := rfl
theorem Comparison.tot (x : Comparison) : G.tot x = 0 := rfl
structure Sorts where
  cons : List ByteArray
  ofs : List Int
  args : List (List Int)
  funs : List ByteArray
  params : List (List Int)
  results : List Int
  count : Int
def Sorts.cellsF (o : Bool) (x : Sorts) : List T := [.sl o 1 (rows o x.cons), .sl o 1 (rows o x.ofs), .sl o 1 (rows o x.args), .sl o 1 (rows o x.funs), .sl o 1 (rows o x.params), .sl o 1 (rows o x.results), .int .i64 x.count]
theorem Sorts.ext_of {x y : Sorts} (h0 : x.cons = y.cons) (h1 : x.ofs = y.ofs) (h2 : x.args = y.args) (h3 : x.funs = y.funs) (h4 : x.params = y.params) (h5 : x.results = y.results) (h6 : x.count = y.count) : x = y := by cases x; cases y; simp_all
instance : G Sorts where
  sz := 7
  cells := Sorts.cellsF
  len _ _ := rfl
  view o x := by simp [Sorts.cellsF, T.viewL, T.view, rows_view]
  nofz x := by simp [Sorts.cellsF, T.noFzL, T.noFz, rows_nofz]
  inj o x y h := by
    simp only [Sorts.cellsF, List.cons.injEq, T.int.injEq, T.str.injEq, T.bool.injEq, T.sl.injEq, true_and, and_true] at h
    obtain ⟨h0, h1, h2, h3, h4, h5, h6⟩ := h
    exact Sorts.ext_of (rows_inj o _ _ h0) (rows_inj o _ _ h1) (rows_inj o _ _ h2) (rows_inj o _ _ h3) (rows_inj o _ _ h4) (rows_inj o _ _ h5) (h6)
  tot x := totL x.cons + totL x.ofs + totL x.args + totL x.funs + totL x.params + totL x.results
  fin x := finL x.cons ∧ finL x.ofs ∧ finL x.args ∧ finL x.funs ∧ finL x.params ∧ finL x.results
  fine x h := ⟨totL_fine _ (by omega), totL_fine _ (by omega), totL_fine _ (by omega), totL_fine _ (by omega), totL_fine _ (by omega), totL_fine _ (by omega)⟩
theorem Sorts.cells (o : Bool) (x : Sorts) : G.cells o x = [.sl o 1 (rows o x.cons), .sl o 1 (rows o x.ofs), .sl o 1 (rows o x.args), .sl o 1 (rows o x.funs), .sl o 1 (rows o x.params), .sl o 1 (rows o x.results), .int .i64 x.count] := rfl
theorem Sorts.tot (x : Sorts) : G.tot x = totL x.cons + totL x.ofs + totL x.args + totL x.funs + totL x.params + totL x.results := rfl
structure Typing where
  name : ByteArray
  sort : Int
def Typing.cellsF (o : Bool) (x : Typing) : List T := [.str x.name, .int .i64 x.sort]
theorem Typing.ext_of {x y : Typing} (h0 : x.name = y.name) (h1 : x.sort = y.sort) : x = y := by cases x; cases y; simp_all
instance : G Typing where
  sz := 2
  cells := Typing.cellsF
  len _ _ := rfl
  view o x := by simp [Typing.cellsF, T.viewL, T.view, rows_view]
  nofz x := by simp [Typing.cellsF, T.noFzL, T.noFz, rows_nofz]
  inj o x y h := by
    simp only [Typing.cellsF, List.cons.injEq, T.int.injEq, T.str.injEq, T.bool.injEq, T.sl.injEq, true_and, and_true] at h
    obtain ⟨h0, h1⟩ := h
    exact Typing.ext_of (h0) (h1)
  tot x := x.name.size
  fin x := x.name.size ≤ BIG
  fine x h := big_of (by omega)
theorem Typing.cells (o : Bool) (x : Typing) : G.cells o x = [.str x.name, .int .i64 x.sort] := rfl
theorem Typing.tot (x : Typing) : G.tot x = x.name.size := rfl
structure Verdict where
  code : Int
  case : List Binding
def Verdict.cellsF (o : Bool) (x : Verdict) : List T := [.int .i64 x.code, .sl o 4 (rows o x.case)]
theorem Verdict.ext_of {x y : Verdict} (h0 : x.code = y.code) (h1 : x.case = y.case) : x = y := by cases x; cases y; simp_all
instance : G Verdict where
  sz := 2
  cells := Verdict.cellsF
  len _ _ := rfl
  view o x := by simp [Verdict.cellsF, T.viewL, T.view, rows_view]
  nofz x := by simp [Verdict.cellsF, T.noFzL, T.noFz, rows_nofz]
  inj o x y h := by
    simp only [Verdict.cellsF, List.cons.injEq, T.int.injEq, T.str.injEq, T.bool.injEq, T.sl.injEq, true_and, and_true] at h
    obtain ⟨h0, h1⟩ := h
    exact Verdict.ext_of (h0) (rows_inj o _ _ h1)
  tot x := totL x.case
  fin x := finL x.case
  fine x h := totL_fine _ (by omega)
theorem Verdict.cells (o : Bool) (x : Verdict) : G.cells o x = [.int .i64 x.code, .sl o 4 (rows o x.case)] := rfl
theorem Verdict.tot (x : Verdict) : G.tot x = totL x.case := rfl
structure Variant where
  policy : Int
  residual : Residual
  rules : Int
  steps : Int
def Variant.cellsF (o : Bool) (x : Variant) : List T := [.int .i64 x.policy, .sl o 7 (rows o x.residual.program.rules), .int .i64 x.residual.start.kind, .str x.residual.start.name, .sl o 3 (rows o x.residual.start.args), .int .i64 x.rules, .int .i64 x.steps]
theorem Variant.ext_of {x y : Variant} (h0 : x.policy = y.policy) (h1 : x.residual = y.residual) (h2 : x.rules = y.rules) (h3 : x.steps = y.steps) : x = y := by cases x; cases y; simp_all
instance : G Variant where
  sz := 7
  cells := Variant.cellsF
  len _ _ := rfl
  view o x := by simp [Variant.cellsF, T.viewL, T.view, rows_view]
  nofz x := by simp [Variant.cellsF, T.noFzL, T.noFz, rows_nofz]
  inj o x y h := by
    simp only [Variant.cellsF, List.cons.injEq, T.int.injEq, T.str.injEq, T.bool.injEq, T.sl.injEq, true_and, and_true] at h
    obtain ⟨h0, h1, h2, h3, h4, h5, h6⟩ := h
    exact Variant.ext_of (h0) (Residual.ext_of (Program.ext_of (rows_inj o _ _ h1)) (Expr.ext_of (h2) (h3) (rows_inj o _ _ h4))) (h5) (h6)
  tot x := G.tot x.residual
  fin x := G.fin x.residual
  fine x h := G.fine _ (by omega)
theorem Variant.cells (o : Bool) (x : Variant) : G.cells o x = [.int .i64 x.policy, .sl o 7 (rows o x.residual.program.rules), .int .i64 x.residual.start.kind, .str x.residual.start.name, .sl o 3 (rows o x.residual.start.args), .int .i64 x.rules, .int .i64 x.steps] := rfl
theorem Variant.tot (x : Variant) : G.tot x = G.tot x.residual := rfl
structure Event where
  node : Int
  action : Int
  other : Int
  nodes : Int
def Event.cellsF (o : Bool) (x : Event) : List T := [.int .i64 x.node, .int .i64 x.action, .int .i64 x.other, .int .i64 x.nodes]
theorem Event.ext_of {x y : Event} (h0 : x.node = y.node) (h1 : x.action = y.action) (h2 : x.other = y.other) (h3 : x.nodes = y.nodes) : x = y := by cases x; cases y; simp_all
instance : G Event where
  sz := 4
  cells := Event.cellsF
  len _ _ := rfl
  view o x := by simp [Event.cellsF, T.viewL, T.view, rows_view]
  nofz x := by simp [Event.cellsF, T.noFzL, T.noFz, rows_nofz]
  inj o x y h := by
    simp only [Event.cellsF, List.cons.injEq, T.int.injEq, T.str.injEq, T.bool.injEq, T.sl.injEq, true_and, and_true] at h
    obtain ⟨h0, h1, h2, h3⟩ := h
    exact Event.ext_of (h0) (h1) (h2) (h3)
  tot x := 0
  fin x := True
  fine _ _ := trivial
theorem Event.cells (o : Bool) (x : Event) : G.cells o x = [.int .i64 x.node, .int .i64 x.action, .int .i64 x.other, .int .i64 x.nodes] := rfl
theorem Event.tot (x : Event) : G.tot x = 0 := rfl
structure Effort where
  status : Int
  steps : Int
  mats : Int
def Effort.cellsF (o : Bool) (x : Effort) : List T := [.int .i64 x.status, .int .i64 x.steps, .int .i64 x.mats]
theorem Effort.ext_of {x y : Effort} (h0 : x.status = y.status) (h1 : x.steps = y.steps) (h2 : x.mats = y.mats) : x = y := by cases x; cases y; simp_all
instance : G Effort where
  sz := 3
  cells := Effort.cellsF
  len _ _ := rfl
  view o x := by simp [Effort.cellsF, T.viewL, T.view, rows_view]
  nofz x := by simp [Effort.cellsF, T.noFzL, T.noFz, rows_nofz]
  inj o x y h := by
    simp only [Effort.cellsF, List.cons.injEq, T.int.injEq, T.str.injEq, T.bool.injEq, T.sl.injEq, true_and, and_true] at h
    obtain ⟨h0, h1, h2⟩ := h
    exact Effort.ext_of (h0) (h1) (h2)
  tot x := 0
  fin x := True
  fine _ _ := trivial
theorem Effort.cells (o : Bool) (x : Effort) : G.cells o x = [.int .i64 x.status, .int .i64 x.steps, .int .i64 x.mats] := rfl
theorem Effort.tot (x : Effort) : G.tot x = 0 := rfl
structure Entry where
  goal : Expr
  uses : List ByteArray
  done : Bool
  residual : Residual
def Entry.cellsF (o : Bool) (x : Entry) : List T := [.int .i64 x.goal.kind, .str x.goal.name, .sl o 3 (rows o x.goal.args), .sl o 1 (rows o x.uses), .bool x.done, .sl o 7 (rows o x.residual.program.rules), .int .i64 x.residual.start.kind, .str x.residual.start.name, .sl o 3 (rows o x.residual.start.args)]
theorem Entry.ext_of {x y : Entry} (h0 : x.goal = y.goal) (h1 : x.uses = y.uses) (h2 : x.done = y.done) (h3 : x.residual = y.residual) : x = y := by cases x; cases y; simp_all
instance : G Entry where
  sz := 9
  cells := Entry.cellsF
  len _ _ := rfl
  view o x := by simp [Entry.cellsF, T.viewL, T.view, rows_view]
  nofz x := by simp [Entry.cellsF, T.noFzL, T.noFz, rows_nofz]
  inj o x y h := by
    simp only [Entry.cellsF, List.cons.injEq, T.int.injEq, T.str.injEq, T.bool.injEq, T.sl.injEq, true_and, and_true] at h
    obtain ⟨h0, h1, h2, h3, h4, h5, h6, h7, h8⟩ := h
    exact Entry.ext_of (Expr.ext_of (h0) (h1) (rows_inj o _ _ h2)) (rows_inj o _ _ h3) (h4) (Residual.ext_of (Program.ext_of (rows_inj o _ _ h5)) (Expr.ext_of (h6) (h7) (rows_inj o _ _ h8)))
  tot x := G.tot x.goal + totL x.uses + G.tot x.residual
  fin x := G.fin x.goal ∧ finL x.uses ∧ G.fin x.residual
  fine x h := ⟨G.fine _ (by omega), totL_fine _ (by omega), G.fine _ (by omega)⟩
theorem Entry.cells (o : Bool) (x : Entry) : G.cells o x = [.int .i64 x.goal.kind, .str x.goal.name, .sl o 3 (rows o x.goal.args), .sl o 1 (rows o x.uses), .bool x.done, .sl o 7 (rows o x.residual.program.rules), .int .i64 x.residual.start.kind, .str x.residual.start.name, .sl o 3 (rows o x.residual.start.args)] := rfl
theorem Entry.tot (x : Entry) : G.tot x = G.tot x.goal + totL x.uses + G.tot x.residual := rfl
structure Base where
  program : Program
  entries : List Entry
def Base.cellsF (o : Bool) (x : Base) : List T := [.sl o 7 (rows o x.program.rules), .sl o 9 (rows o x.entries)]
theorem Base.ext_of {x y : Base} (h0 : x.program = y.program) (h1 : x.entries = y.entries) : x = y := by cases x; cases y; simp_all
instance : G Base where
  sz := 2
  cells := Base.cellsF
  len _ _ := rfl
  view o x := by simp [Base.cellsF, T.viewL, T.view, rows_view]
  nofz x := by simp [Base.cellsF, T.noFzL, T.noFz, rows_nofz]
  inj o x y h := by
    simp only [Base.cellsF, List.cons.injEq, T.int.injEq, T.str.injEq, T.bool.injEq, T.sl.injEq, true_and, and_true] at h
    obtain ⟨h0, h1⟩ := h
    exact Base.ext_of (Program.ext_of (rows_inj o _ _ h0)) (rows_inj o _ _ h1)
  tot x := G.tot x.program + totL x.entries
  fin x := G.fin x.program ∧ finL x.entries
  fine x h := ⟨G.fine _ (by omega), totL_fine _ (by omega)⟩
theorem Base.cells (o : Bool) (x : Base) : G.cells o x = [.sl o 7 (rows o x.program.rules), .sl o 9 (rows o x.entries)] := rfl
theorem Base.tot (x : Base) : G.tot x = G.tot x.program + totL x.entries := rfl
structure Session where
  text : ByteArray
  goal : Expr
  tree : Tree
  residual : Residual
def Session.cellsF (o : Bool) (x : Session) : List T := [.str x.text, .int .i64 x.goal.kind, .str x.goal.name, .sl o 3 (rows o x.goal.args), .sl o 11 (rows o x.tree.nodes), .sl o 7 (rows o x.residual.program.rules), .int .i64 x.residual.start.kind, .str x.residual.start.name, .sl o 3 (rows o x.residual.start.args)]
theorem Session.ext_of {x y : Session} (h0 : x.text = y.text) (h1 : x.goal = y.goal) (h2 : x.tree = y.tree) (h3 : x.residual = y.residual) : x = y := by cases x; cases y; simp_all
instance : G Session where
  sz := 9
  cells := Session.cellsF
  len _ _ := rfl
  view o x := by simp [Session.cellsF, T.viewL, T.view, rows_view]
  nofz x := by simp [Session.cellsF, T.noFzL, T.noFz, rows_nofz]
  inj o x y h := by
    simp only [Session.cellsF, List.cons.injEq, T.int.injEq, T.str.injEq, T.bool.injEq, T.sl.injEq, true_and, and_true] at h
    obtain ⟨h0, h1, h2, h3, h4, h5, h6, h7, h8⟩ := h
    exact Session.ext_of (h0) (Expr.ext_of (h1) (h2) (rows_inj o _ _ h3)) (Tree.ext_of (rows_inj o _ _ h4)) (Residual.ext_of (Program.ext_of (rows_inj o _ _ h5)) (Expr.ext_of (h6) (h7) (rows_inj o _ _ h8)))
  tot x := x.text.size + G.tot x.goal + G.tot x.tree + G.tot x.residual
  fin x := x.text.size ≤ BIG ∧ G.fin x.goal ∧ G.fin x.tree ∧ G.fin x.residual
  fine x h := ⟨big_of (by omega), G.fine _ (by omega), G.fine _ (by omega), G.fine _ (by omega)⟩
theorem Session.cells (o : Bool) (x : Session) : G.cells o x = [.str x.text, .int .i64 x.goal.kind, .str x.goal.name, .sl o 3 (rows o x.goal.args), .sl o 11 (rows o x.tree.nodes), .sl o 7 (rows o x.residual.program.rules), .int .i64 x.residual.start.kind, .str x.residual.start.name, .sl o 3 (rows o x.residual.start.args)] := rfl
theorem Session.tot (x : Session) : G.tot x = x.text.size + G.tot x.goal + G.tot x.tree + G.tot x.residual := rfl
structure Shared where
  status : Int
  value : Expr
  steps : Int
  cels : Int
def Shared.cellsF (o : Bool) (x : Shared) : List T := [.int .i64 x.status, .int .i64 x.value.kind, .str x.value.name, .sl o 3 (rows o x.value.args), .int .i64 x.steps, .int .i64 x.cels]
theorem Shared.ext_of {x y : Shared} (h0 : x.status = y.status) (h1 : x.value = y.value) (h2 : x.steps = y.steps) (h3 : x.cels = y.cels) : x = y := by cases x; cases y; simp_all
instance : G Shared where
  sz := 6
  cells := Shared.cellsF
  len _ _ := rfl
  view o x := by simp [Shared.cellsF, T.viewL, T.view, rows_view]
  nofz x := by simp [Shared.cellsF, T.noFzL, T.noFz, rows_nofz]
  inj o x y h := by
    simp only [Shared.cellsF, List.cons.injEq, T.int.injEq, T.str.injEq, T.bool.injEq, T.sl.injEq, true_and, and_true] at h
    obtain ⟨h0, h1, h2, h3, h4, h5⟩ := h
    exact Shared.ext_of (h0) (Expr.ext_of (h1) (h2) (rows_inj o _ _ h3)) (h4) (h5)
  tot x := G.tot x.value
  fin x := G.fin x.value
  fine x h := G.fine _ (by omega)
theorem Shared.cells (o : Bool) (x : Shared) : G.cells o x = [.int .i64 x.status, .int .i64 x.value.kind, .str x.value.name, .sl o 3 (rows o x.value.args), .int .i64 x.steps, .int .i64 x.cels] := rfl
theorem Shared.tot (x : Shared) : G.tot x = G.tot x.value := rfl
end D
end Vx

namespace Vx
open Go
set_option linter.unusedVariables false
set_option linter.unusedSimpArgs false

/-! ## What a law's arguments are -/
def allFz : Gh := ⟨fun _ => .frozen, fun _ => undef, fun _ => (0, 0, 0), maxLen⟩
/-- The cells of data of a type. -/
def Row (P : Program) : Nat → TypeId → List T → Prop
  | 0, _, _ => False
  | n + 1, t, row => match P.underlying t with
    | some .bool => ∃ b, row = [.bool b]
    | some (.int k) => ∃ x, row = [.int k x]
    | some .string => ∃ s : ByteArray, row = [.str s] ∧ s.size ≤ BIG
    | some (.slice e) => ∃ xs : List (List T), row = [.sl false (P.cellsOf e) xs] ∧ xs.length ≤ BIG ∧ ∀ r ∈ xs, Row P n e r
    | some (.struct fs) => row.length = P.cellsOf t ∧ ∀ f ∈ fs.toList, Row P n f.type ((row.drop f.offset).take (P.cellsOf f.type))
    | _ => False
def tiles (P : Program) : Nat → List Field → Nat → Bool
  | off, [], n => off == n
  | off, f :: r, n => f.offset == off && tiles P (off + P.cellsOf f.type) r n
def supp (P : Program) (S : List TypeId) : Bool := S.all fun t => match P.underlying t with
  | some .bool => true
  | some (.int _) => true
  | some .string => true
  | some (.slice e) => S.contains e && decide (0 < P.cellsOf e)
  | some (.struct fs) => fs.toList.all (fun f => S.contains f.type) && tiles P 0 fs.toList (P.cellsOf t)
  | _ => false

theorem cell_parts {w : World} {a : Addr} {v : Value} (h : w.cell? a = some v) : a.spot = none ∧ ∃ cs el fr, w.heap[a.block]? = some (.cells cs el fr) ∧ cs[a.off]? = some v := by
  unfold World.cell? at h
  split at h
  · rename_i c el fr hh
    split at h
    · cases h
    · rename_i hs
      exact ⟨by simpa using hs, c, el, fr, hh, h⟩
  · cases h
abbrev FRow (w : World) (row : List T) (cs : List Value) : Prop := ∀ (j : Nat) (x : T) (v : Value), row[j]? = some x → cs[j]? = some v → FRep w allFz x v

section
variable {H : Type} {enc : TypeId × Value → H} {P : Program} {w : World} {sp : Nat → Bool} {held : Bool} {S : List TypeId}
/-- The fields of a struct, put together. -/
theorem rows_of_fields {n : Nat} {cs : List Value} : ∀ (fs : List Field) (off : Nat), tiles P off fs cs.length = true → off ≤ cs.length →
    (∀ f ∈ fs, ∃ row : List T, row.length = ((cs.drop f.offset).take (P.cellsOf f.type)).length ∧ Row P n f.type row ∧ FRow w row ((cs.drop f.offset).take (P.cellsOf f.type))) →
    ∃ row : List T, row.length = cs.length - off ∧ (∀ f ∈ fs, off ≤ f.offset ∧ Row P n f.type ((row.drop (f.offset - off)).take (P.cellsOf f.type))) ∧ FRow w row (cs.drop off)
  | [], off, ht, ho, _ => by
    simp only [tiles, beq_iff_eq] at ht
    exact ⟨[], by simp [ht], by simp, fun j x v h _ => by simp at h⟩
  | f :: fs, off, ht, ho, hf => by
    simp only [tiles, Bool.and_eq_true, beq_iff_eq] at ht
    obtain ⟨rfl, ht⟩ := ht
    obtain ⟨r1, l1, p1, q1⟩ := hf f (by simp)
    have hle : f.offset + P.cellsOf f.type ≤ cs.length := by
      clear hf
      have key : ∀ (fs : List Field) (off : Nat), tiles P off fs cs.length = true → off ≤ cs.length := by
        intro fs
        induction fs with
        | nil => intro off h; simp only [tiles, beq_iff_eq] at h; omega
        | cons f fs ih =>
          intro off h
          simp only [tiles, Bool.and_eq_true, beq_iff_eq] at h
          have := ih _ h.2
          omega
      exact key fs _ ht
    obtain ⟨r2, l2, p2, q2⟩ := rows_of_fields fs (f.offset + P.cellsOf f.type) ht hle fun g hg => hf g (by simp [hg])
    have l1' : r1.length = P.cellsOf f.type := by rw [l1]; simp; omega
    refine ⟨r1 ++ r2, by simp [l1', l2]; omega, fun g hg => ?_, fun j x v hx hv => ?_⟩
    · rcases List.mem_cons.1 hg with e | e
      · subst e
        refine ⟨Nat.le_refl _, ?_⟩
        rw [Nat.sub_self, List.drop_zero, ← l1', List.take_left]
        exact p1
      · obtain ⟨h1, h2⟩ := p2 g e
        refine ⟨by omega, ?_⟩
        have : g.offset - f.offset = r1.length + (g.offset - (f.offset + P.cellsOf f.type)) := by omega
        have e2 : ∀ k, List.drop (r1.length + k) (r1 ++ r2) = List.drop k r2 := fun k => by rw [List.drop_append, List.drop_eq_nil_of_le (by omega)]; simp
        rw [this, e2]
        exact h2
    · by_cases hj : j < r1.length
      · rw [List.getElem?_append_left hj] at hx
        refine q1 j x v hx ?_
        rw [List.getElem?_take, if_pos (by omega)]
        exact hv
      · rw [List.getElem?_append_right (by omega)] at hx
        refine q2 _ x v hx ?_
        rw [List.getElem?_drop] at hv ⊢
        rw [← hv]; congr 1; omega

theorem entry (hS : supp P S = true) : ∀ (fuel : Nat) (t : TypeId) (cs : List Value) (x : DataW H × List MemPlace), t ∈ S → DataW.trod enc P w 0 sp held fuel t cs = some x →
    ∃ row : List T, row.length = cs.length ∧ Row P fuel t row ∧ FRow w row cs
  | 0, t, cs, x, _, h => by simp [DataW.trod] at h
  | n + 1, t, cs, x, ht, h => by
    have hS' := hS
    simp only [supp, List.all_eq_true] at hS'
    have hst := hS' t ht
    cases hu : P.underlying t with
    | none => rw [hu] at hst; cases hst
    | some d =>
      rw [hu] at hst
      cases d with
      | bool =>
        obtain ⟨b, rfl, _⟩ := DataW.trod_bool hu h
        refine ⟨[.bool b], rfl, by simp only [Row, hu]; exact ⟨b, rfl⟩, fun j x v h1 h2 => ?_⟩
        cases j with
        | zero => cases h1; cases h2; exact .bool
        | succ j => simp at h1
      | int k =>
        obtain ⟨m, rfl, _⟩ := DataW.trod_int hu h
        refine ⟨[.int k m], rfl, by simp only [Row, hu]; exact ⟨m, rfl⟩, fun j x v h1 h2 => ?_⟩
        cases j with
        | zero => cases h1; cases h2; exact .int
        | succ j => simp at h1
      | string =>
        obtain ⟨s, rfl, _, hs⟩ := DataW.trod_string hu h
        refine ⟨[.str s], rfl, by simp only [Row, hu]; exact ⟨s, rfl, hs⟩, fun j x v h1 h2 => ?_⟩
        cases j with
        | zero => cases h1; cases h2; exact .str hs
        | succ j => simp at h1
      | slice e =>
        simp only [Bool.and_eq_true, List.contains_iff_mem, decide_eq_true_eq] at hst
        obtain ⟨he, hpos⟩ := hst
        rcases DataW.trod_slice hu h with ⟨rfl, _⟩ | ⟨a, len, cap, elems, rest, n', hn, rfl, _, _, hlc, hcm, hel, hget, _⟩
        · refine ⟨[.sl false (P.cellsOf e) []], rfl, by simp only [Row, hu]; exact ⟨[], rfl, by simp, by simp⟩, fun j x v h1 h2 => ?_⟩
          cases j with
          | zero => cases h1; cases h2; exact .fnil
          | succ j => simp at h1
        · cases hn
          have helem : ∀ i, ∃ row : List T, i < len → Row P n e row ∧ row.length = P.cellsOf e ∧ ∀ (c : Nat) (x : T), row[c]? = some x → ∃ v, w.cell? ((a.add (i * P.cellsOf e)).add c) = some v ∧ FRep w allFz x v := by
            intro i
            by_cases hi : i < len
            · have hb := hget i hi
              have hil : i < elems.length := by omega
              rw [List.getElem?_eq_getElem hil] at hb
              obtain ⟨cs', h1, h2⟩ := Option.bind_eq_some_iff.1 hb
              obtain ⟨row, r1, r2, r3⟩ := entry hS n e cs' _ he h2
              obtain ⟨_, hl, hc⟩ := World.cells?_some h1
              refine ⟨row, fun _ => ⟨r2, by rw [r1, hl], fun c x hx => ?_⟩⟩
              have hcl : c < cs'.length := by rw [← r1]; exact lt_of_getElem? hx
              refine ⟨cs'[c], ?_, r3 c x _ hx (List.getElem?_eq_getElem hcl)⟩
              rw [hc c (by omega)]
              exact List.getElem?_eq_getElem hcl
            · exact ⟨[], fun h => absurd h hi⟩
          obtain ⟨ev, hspec⟩ := Classical.axiomOfChoice helem
          let xs : List (List T) := (List.range len).map ev
          have hxl : xs.length = len := by simp [xs]
          have hxi : ∀ i row, xs[i]? = some row → i < len ∧ row = ev i := by
            intro i row hr
            have hil := lt_of_getElem? hr
            rw [hxl] at hil
            simp only [xs, List.getElem?_map, Option.map_eq_some_iff] at hr
            obtain ⟨j, hj, rfl⟩ := hr
            rw [List.getElem?_range hil] at hj
            cases hj
            exact ⟨hil, rfl⟩
          refine ⟨[.sl false (P.cellsOf e) xs], rfl, ?_, fun j x v h1 h2 => ?_⟩
          · simp only [Row, hu]
            refine ⟨xs, rfl, ?_, fun r hr => ?_⟩
            · rw [hxl]
              have : maxLen = 9223372036854775807 := by decide
              show len ≤ 9223372036854775807
              omega
            · obtain ⟨i, hi, rfl⟩ := List.mem_map.1 hr
              exact (hspec i (List.mem_range.1 hi)).1
          · cases j with
            | succ j => simp at h1
            | zero =>
              cases h1; cases h2
              by_cases h0 : len = 0
              · have : xs = [] := List.length_eq_zero_iff.1 (by omega)
                rw [this, h0]
                exact .fnil
              · have hp := hspec 0 (by omega)
                have hlt : 0 < (ev 0).length := by omega
                obtain ⟨v0, hv0, _⟩ := hp.2.2 0 _ (List.getElem?_eq_getElem hlt)
                have hv0' : w.cell? a = some v0 := by simpa [Addr.add] using hv0
                obtain ⟨hsp, cs, el, fr, hh, _⟩ := cell_parts hv0'
                obtain ⟨b, off, spot⟩ := a
                simp only at hsp
                subst hsp
                have hcell : ∀ i c, i < len → c < P.cellsOf e → ∃ v, cs[off + i * P.cellsOf e + c]? = some v ∧ ∀ x, (ev i)[c]? = some x → FRep w allFz x v := by
                  intro i c hi hc
                  obtain ⟨_, h2, h3⟩ := hspec i hi
                  obtain ⟨v, hv, hf⟩ := h3 c _ (List.getElem?_eq_getElem (by omega))
                  rw [addr_add, addr_add, cell_of hh] at hv
                  exact ⟨v, hv, fun x hx => by rw [List.getElem?_eq_getElem (by omega)] at hx; cases hx; exact hf⟩
                have hch : ∀ p : Nat × Nat, ∃ v, p.1 < len → p.2 < P.cellsOf e → cs[off + p.1 * P.cellsOf e + p.2]? = some v ∧ ∀ x, (ev p.1)[p.2]? = some x → FRep w allFz x v := by
                  intro p
                  by_cases h1 : p.1 < len
                  · by_cases h2 : p.2 < P.cellsOf e
                    · obtain ⟨v, hv⟩ := hcell p.1 p.2 h1 h2
                      exact ⟨v, fun _ _ => hv⟩
                    · exact ⟨undef, fun _ h => absurd h h2⟩
                  · exact ⟨undef, fun h => absurd h h1⟩
                obtain ⟨vs, hvs⟩ := Classical.axiomOfChoice hch
                have := FRep.fz (w := w) (g := allFz) (b := b) (off := off) (cap := cap) (sz := P.cellsOf e) (xs := xs) (cs := cs) (el := el) (fr := fr) (fun i c => vs (i, c)) hh rfl (by omega) (by rw [hxl]; show len ≤ maxLen; omega)
                  (fun row hr => by
                    obtain ⟨i, hi, rfl⟩ := List.mem_map.1 hr
                    exact (hspec i (List.mem_range.1 hi)).2.1)
                  (fun i c hi hc => (hvs (i, c) (by omega) hc).1)
                  (fun i row c t hr htc => by
                    obtain ⟨hi, rfl⟩ := hxi i row hr
                    refine (hvs (i, c) hi ?_).2 t htc
                    have := lt_of_getElem? htc
                    rw [(hspec i hi).2.1] at this
                    exact this)
                rw [hxl] at this
                exact this
      | struct fs =>
        simp only [Bool.and_eq_true, List.all_eq_true, List.contains_iff_mem] at hst
        obtain ⟨hmem, htile⟩ := hst
        obtain ⟨xs, n', hn, _, hl, hxl, hf⟩ := DataW.trod_struct hu h
        cases hn
        have hfl : ∀ f ∈ fs.toList, ∃ row : List T, row.length = ((cs.drop f.offset).take (P.cellsOf f.type)).length ∧ Row P n f.type row ∧ FRow w row ((cs.drop f.offset).take (P.cellsOf f.type)) := by
          intro f hfm
          obtain ⟨i, hi, e⟩ := List.mem_iff_getElem.1 hfm
          have hfi : fs[i]? = some f := by rw [← e]; simp at hi; simp [hi]
          have h1 := hf i f hfi
          have hix : i < xs.length := by rw [hxl]; simpa using hi
          rw [List.getElem?_eq_getElem hix] at h1
          exact entry hS n f.type _ _ (hmem f hfm) h1
        obtain ⟨row, l1, p1, q1⟩ := rows_of_fields fs.toList 0 (by rw [hl]; exact htile) (Nat.zero_le _) hfl
        refine ⟨row, by simpa using l1, ?_, by simpa using q1⟩
        simp only [Row, hu]
        refine ⟨by rw [l1, hl]; simp, fun f hfm => ?_⟩
        have := (p1 f hfm).2
        simpa using this
      | _ => cases hst

/-- An argument of one cell, or of a struct, as the machine has it. -/
theorem entry_sv (hS : supp P S = true) {t : TypeId} {v : Value} {d : DataW H} {p : List MemPlace} (ht : t ∈ S) (h : DataW.Trod enc P w 0 sp held t v d p) :
    ∃ (n : Nat) (row : List T), Row P n t row ∧ row.length = v.cells.size ∧ FRow w row v.cells.toList := by
  obtain ⟨fuel, hf⟩ := h
  obtain ⟨row, h1, h2, h3⟩ := entry hS fuel t _ _ ht hf
  exact ⟨fuel, row, h2, by simpa using h1, h3⟩
end

theorem allFz_core {P : Program} {W : World} {fa : List SV} {vals : Array Value} (hs : vals.size = fa.length) (h : ∀ (n : Nat) (x : SV), fa[n]? = some x → SVRep W allFz noDirt (.slot n) 0 x (vals.getD n undef) ∧ x.flat = true ∧ x.roots = []) : Core ⟨P, 0, #[]⟩ (entrySt fa []).sg vals W allFz := by
  refine ⟨fun n => ?_, fun n => ?_, fun n r hr => ?_, fun k c r hr => ?_, fun k kd hk => ?_, fun k es hk => ?_, fun b hb => ?_, Nat.zero_le _⟩
  · show SVRep W _ noDirt (.slot n) 0 ((entrySt fa []).slot n) _
    rw [entry_slot]
    cases hn : fa[n]? with
    | none => exact .c (.t (.fro .top))
    | some z => exact (h n z hn).1
  · show ((entrySt fa []).slot n).flat = true
    rw [entry_slot]
    cases hn : fa[n]? with
    | none => rfl
    | some z => exact (h n z hn).2.1
  · have hr : r ∈ ((entrySt fa []).slot n).roots := hr
    rw [entry_slot] at hr
    cases hn : fa[n]? with
    | none => rw [hn] at hr; simp [SV.roots, C.roots] at hr
    | some z =>
      rw [hn] at hr
      simp only [Option.getD_some] at hr
      rw [(h n z hn).2.2] at hr
      cases hr
  · have hr : r ∈ ((entrySt fa []).cell k c).roots := hr
    simp [St.cell, entrySt, obsOf, visOf, lk, C.roots] at hr
  · have hk : (entrySt fa []).kind k = some kd := hk
    simp [St.kind, entrySt, obsOf, visOf, lk] at hk
  · have hk : (entrySt fa []).map k = some es := hk
    simp [St.map, entrySt, mpsOf, lk] at hk
  · exact absurd hb (Nat.not_lt_zero b)
theorem Move.below {W w' : World} {g' : Gh} (h : Move W allFz w' g') : Go.RowKit.Below W.heap.size W w' :=
  ⟨h.env.1, h.env.2.1, h.env.2.2, h.size, fun k hk => (h.keep k hk (.inl rfl)).2⟩
/-- An argument as the machine has it. -/
inductive ArgRep (W : World) : SV → Value → Prop where
  | c {x v} (h : FRep W allFz x v) : ArgRep W (.c (.t x)) v
  | agg {row cs} (hl : row.length = cs.size) (h : FRow W row cs.toList) : ArgRep W (.agg (row.map C.t)) (.agg cs)
theorem ArgRep.sv {W : World} {x : SV} {v : Value} (h : ArgRep W x v) (n : Nat) : SVRep W allFz noDirt (.slot n) 0 x v ∧ x.flat = true ∧ x.roots = [] := by
  cases h with
  | c h => exact ⟨.c (.t (.fro h)), rfl, rfl⟩
  | @agg row cs hl h =>
    refine ⟨?_, rfl, ?_⟩
    · have := SVRep.agg (w := W) (g := allFz) (d := noDirt) (r := .slot n) (n := 0) (row := row.map C.t) (fun j => cs.getD j undef) (fun j x hj => by
        simp only [List.getElem?_map, Option.map_eq_some_iff] at hj
        obtain ⟨y, hy, rfl⟩ := hj
        have hlt := lt_of_getElem? hy
        refine .t (.fro (h j y _ hy ?_))
        simp [Array.getD_eq_getD_getElem?, show j < cs.size by omega])
      have e : ((List.range (row.map C.t).length).map fun j => cs.getD j undef).toArray = cs := by
        apply Array.ext_getElem?
        intro i
        by_cases hi : i < cs.size
        · simp [hi, hl, Array.getD_eq_getD_getElem?]
        · simp [hi, hl]
      rw [e] at this
      exact this
    · simp only [SV.roots]
      generalize row = l
      clear h hl
      induction l <;> simp_all [C.rootsL, C.roots]
/-- What the walk of a law says: it returns true and changes nothing that was. -/
theorem law_calls {P : Program} {f : Nat} {fa : List SV} (hR : Vx.Returns ⟨P, 0, #[]⟩ f fa [] (.c (.t (.bool true))) []) {W : World} {vals : Array Value} (hs : vals.size = fa.length)
    (h : ∀ (n : Nat) (x : SV), fa[n]? = some x → ArgRep W x (vals.getD n undef)) :
    Calls P f vals W fun e W' => e = .returned (.bool true) ∧ Go.RowKit.Below W.heap.size W W' := by
  obtain ⟨_, hrun⟩ := hR
  refine (hrun W allFz vals (by decide) hs (allFz_core hs fun n x hn => (h n x hn).sv n)).mono fun e W' he => ?_
  cases e with
  | returned v =>
    obtain ⟨g', hres, _, hm⟩ := he
    cases hres with | c hres => cases hres with | t hres => cases hres with | fro hres => cases hres; exact ⟨rfl, Move.below hm⟩
  | panicked c => exact he.elim
  | outgrown => exact he.elim
/-- Rows of one type are rows of data. -/
theorem rows_of {α : Type} [G α] {xs : List (List T)} (h : ∀ r ∈ xs, ∃ x : α, r = G.cells false x ∧ G.fin x) (hl : xs.length ≤ BIG) : ∃ l : List α, xs = rows false l ∧ finL l := by
  have : ∃ l : List α, xs = rows false l ∧ ∀ x ∈ l, G.fin x := by
    clear hl
    induction xs with
    | nil => exact ⟨[], rfl, by simp⟩
    | cons r xs ih =>
      obtain ⟨x, rfl, hx⟩ := h r (by simp)
      obtain ⟨l, rfl, hl⟩ := ih fun r hr => h r (by simp [hr])
      exact ⟨x :: l, rfl, fun y hy => by rcases List.mem_cons.1 hy with e | e; · subst e; exact hx
                                         · exact hl y e⟩
  obtain ⟨l, e, hf⟩ := this
  exact ⟨l, e, by rw [e, rows_length] at hl; exact hl, hf⟩

section
variable {P : Program}
theorem row_int {n : Nat} {t : TypeId} {k : IntKind} {row : List T} (hu : P.underlying t = some (.int k)) (h : Row P n t row) : ∃ x, row = [.int k x] := by
  cases n with
  | zero => exact h.elim
  | succ n => simp only [Row, hu] at h; exact h
theorem row_bool {n : Nat} {t : TypeId} {row : List T} (hu : P.underlying t = some .bool) (h : Row P n t row) : ∃ x, row = [.bool x] := by
  cases n with
  | zero => exact h.elim
  | succ n => simp only [Row, hu] at h; exact h
theorem row_str {n : Nat} {t : TypeId} {row : List T} (hu : P.underlying t = some .string) (h : Row P n t row) : ∃ x : ByteArray, row = G.cells false x ∧ G.fin x := by
  cases n with
  | zero => exact h.elim
  | succ n => simp only [Row, hu] at h; exact h
theorem row_int' {n : Nat} {t : TypeId} {row : List T} (hu : P.underlying t = some (.int .i64)) (h : Row P n t row) : ∃ x : Int, row = G.cells false x ∧ G.fin x := by
  obtain ⟨x, rfl⟩ := row_int hu h
  exact ⟨x, rfl, trivial⟩
theorem row_sl {n : Nat} {t e : TypeId} {row : List T} (hu : P.underlying t = some (.slice e)) (h : Row P n t row) : ∃ xs : List (List T), row = [.sl false (P.cellsOf e) xs] ∧ xs.length ≤ BIG ∧ ∀ r ∈ xs, ∃ m, m < n ∧ Row P m e r := by
  cases n with
  | zero => exact h.elim
  | succ n =>
    simp only [Row, hu] at h
    obtain ⟨xs, h1, h2, h3⟩ := h
    exact ⟨xs, h1, h2, fun r hr => ⟨n, Nat.lt_succ_self n, h3 r hr⟩⟩
theorem row_struct {n : Nat} {t : TypeId} {fs : Array Field} {row : List T} (hu : P.underlying t = some (.struct fs)) (h : Row P n t row) : row.length = P.cellsOf t ∧ ∃ m, m < n ∧ ∀ f ∈ fs.toList, Row P m f.type ((row.drop f.offset).take (P.cellsOf f.type)) := by
  cases n with
  | zero => exact h.elim
  | succ n =>
    simp only [Row, hu] at h
    exact ⟨h.1, n, Nat.lt_succ_self n, h.2⟩
theorem okWide_agg {w : World} {r : Reach} {b : Nat} {t : TypeId} {fs : Array Field} {v : Value} (hu : P.underlying t = some (.struct fs)) (h : Value.okWide P w r b t v) : ∃ cs, v = .agg cs := by
  unfold Value.okWide at h
  rw [hu] at h
  obtain ⟨cs, e, _⟩ := h
  exact ⟨cs, e⟩
end
theorem ArgRep.struct {W : World} {v : Value} {cs : Array Value} {row : List T} (hv : v = .agg cs) (hl : row.length = v.cells.size) (h : FRow W row v.cells.toList) : ArgRep W (.agg (row.map C.t)) v := by
  subst hv; exact .agg hl h
theorem ArgRep.one {W : World} {v : Value} {x : T} (hv : v.cells = #[v]) (h : FRow W [x] v.cells.toList) : ArgRep W (.c (.t x)) v := by
  refine .c (h 0 x v rfl ?_)
  rw [hv]; rfl
end Vx

namespace Vx
open Go
set_option linter.unusedVariables false
set_option linter.unusedSimpArgs false
/-! ## What the laws' marks are -/
/-- The digits of `n` ahead of `out`. -/
def dig (n : Nat) (out : ByteArray) : ByteArray := if n = 0 then out else dig (n / 10) (ByteArray.mk #[UInt8.ofNat (48 + n % 10)] ++ out)
termination_by n
/-- The text of the mark `n`. -/
def mt (n : Nat) : ByteArray := if n = 0 then ByteArray.mk #[109, 48] else ByteArray.mk #[109] ++ dig n (ByteArray.mk #[])
/-- A datum, marked from `k` on; how many marks it takes. -/
class Mk (α : Type) where
  mark : Nat → α → α
  cnt : α → Nat
instance : Mk Int := ⟨fun k _ => I k, fun _ => 1⟩
instance : Mk ByteArray := ⟨fun k _ => mt k, fun _ => 1⟩
instance : Mk Bool := ⟨fun k _ => k % 3 == 0, fun _ => 1⟩
def mkL {α : Type} [Mk α] : Nat → List α → List α
  | _, [] => []
  | k, x :: l => Mk.mark k x :: mkL (k + Mk.cnt x) l
def cntL {α : Type} [Mk α] (l : List α) : Nat := (l.map Mk.cnt).sum
instance {α : Type} [Mk α] : Mk (List α) := ⟨mkL, cntL⟩
section
variable {α : Type} [Mk α]
theorem mkL_length : ∀ (k : Nat) (l : List α), (mkL k l).length = l.length
  | _, [] => rfl
  | k, x :: l => by simp [mkL, mkL_length]
theorem mkL_get : ∀ (l : List α) (k i : Nat) (h : i < l.length), (mkL k l)[i]? = some (Mk.mark (k + cntL (l.take i)) l[i])
  | x :: l, k, 0, h => by simp [mkL, cntL]
  | x :: l, k, i + 1, h => by
    have := mkL_get l (k + Mk.cnt x) i (by simpa using h)
    simp only [mkL, List.getElem?_cons_succ, this, List.take_succ_cons, cntL, List.map_cons, List.sum_cons, List.getElem_cons_succ, Nat.add_assoc]
theorem cntL_succ (l : List α) (i : Nat) (h : i < l.length) : cntL (l.take (i + 1)) = cntL (l.take i) + Mk.cnt l[i] := sum_take_succ _ _ _ h
theorem cntL_le (l : List α) (i : Nat) : cntL (l.take i) ≤ cntL l := sum_take_le _ _ _
theorem mkL_take (l : List α) (k i : Nat) (h : i < l.length) : mkL k (l.take (i + 1)) = mkL k (l.take i) ++ [Mk.mark (k + cntL (l.take i)) l[i]] := by
  induction l generalizing k i with
  | nil => simp at h
  | cons x l ih =>
    cases i with
    | zero => simp [mkL, cntL]
    | succ i =>
      simp only [List.take_succ_cons, mkL, List.cons_append, List.getElem_cons_succ, cntL, List.map_cons, List.sum_cons]
      rw [ih (k + Mk.cnt x) i (by simpa using h)]
      simp only [cntL, Nat.add_assoc]
variable [G α]
/-- A list that is being marked: so many are done. -/
def mkd (k : Nat) (l : List α) (i : Nat) : List (List T) := rows true (mkL k (l.take i)) ++ rows true (l.drop i)
theorem mkd_zero (k : Nat) (l : List α) : mkd k l 0 = rows true l := by simp [mkd, mkL, rows]
theorem mkd_all (k : Nat) (l : List α) : mkd k l l.length = rows true (mkL k l) := by simp [mkd, rows]
theorem mkd_length (k : Nat) (l : List α) (i : Nat) : (mkd k l i).length = l.length := by
  simp only [mkd, List.length_append, rows_length, mkL_length, List.length_take, List.length_drop]
  omega
theorem mkd_get (k : Nat) (l : List α) (i : Nat) (h : i < l.length) : (mkd k l i)[i]? = some (G.cells true l[i]) := by
  unfold mkd
  have hl : (rows true (mkL k (l.take i))).length = i := by rw [rows_length, mkL_length]; simp; omega
  rw [List.getElem?_append_right (by omega), hl, Nat.sub_self, rows_get, List.getElem?_drop]
  simp [h]
theorem mkd_set (k : Nat) (l : List α) (i : Nat) (h : i < l.length) : (mkd k l i).set i (G.cells true (Mk.mark (k + cntL (l.take i)) l[i])) = mkd k l (i + 1) := by
  have hl : (rows true (mkL k (l.take i))).length = i := by rw [rows_length, mkL_length]; simp; omega
  unfold mkd
  rw [mkL_take l k i h]
  have e : rows true (mkL k (l.take i) ++ [Mk.mark (k + cntL (l.take i)) l[i]]) = rows true (mkL k (l.take i)) ++ [G.cells true (Mk.mark (k + cntL (l.take i)) l[i])] := by simp [rows]
  have e2 : rows true (l.drop i) = G.cells true l[i] :: rows true (l.drop (i + 1)) := by rw [List.drop_eq_getElem_cons h]; rfl
  rw [e, e2, List.set_append_right _ _ (by omega), hl, Nat.sub_self, List.set_cons_zero, List.append_assoc]
  rfl
end
namespace D
mutual
def Expr.markE : Nat → Expr → Expr
  | k, ⟨_, _, as⟩ => ⟨I k, mt (k + 1), Expr.marksE (k + 2) as⟩
def Expr.marksE : Nat → List Expr → List Expr
  | _, [] => []
  | k, x :: l => Expr.markE k x :: Expr.marksE (k + Expr.cntE x) l
def Expr.cntE : Expr → Nat
  | ⟨_, _, as⟩ => 2 + Expr.cntsE as
def Expr.cntsE : List Expr → Nat
  | [] => 0
  | x :: l => Expr.cntE x + Expr.cntsE l
end
instance : Mk Expr := ⟨Expr.markE, Expr.cntE⟩
theorem Expr.marksE_eq : ∀ (k : Nat) (l : List Expr), Expr.marksE k l = mkL k l
  | _, [] => by simp [Expr.marksE, mkL]
  | k, x :: l => by rw [Expr.marksE, Expr.marksE_eq]; rfl
theorem Expr.cntsE_eq : ∀ (l : List Expr), Expr.cntsE l = cntL l
  | [] => by simp [Expr.cntsE, cntL]
  | x :: l => by rw [Expr.cntsE, Expr.cntsE_eq]; simp [cntL]; rfl
theorem Expr.mark (k : Nat) (a : Int) (b : ByteArray) (c : List Expr) : Mk.mark k (⟨a, b, c⟩ : Expr) = ⟨I k, mt (k + 1), mkL (k + 2) c⟩ := by
  show Expr.markE k _ = _
  rw [Expr.markE, Expr.marksE_eq]
theorem Expr.cnt (a : Int) (b : ByteArray) (c : List Expr) : Mk.cnt (⟨a, b, c⟩ : Expr) = 2 + cntL c := by
  show Expr.cntE _ = _
  rw [Expr.cntE, Expr.cntsE_eq]
end D
end Vx

namespace Vx
open Go
set_option linter.unusedVariables false
set_option linter.unusedSimpArgs false
/-! ## What the laws' marks are, type by type -/
namespace D
instance : Mk Rule := ⟨fun k x => { name := Mk.mark (k) x.name, con := Mk.mark (k + Mk.cnt x.name) x.con, vars := Mk.mark (k + Mk.cnt x.name + Mk.cnt x.con) x.vars, params := Mk.mark (k + Mk.cnt x.name + Mk.cnt x.con + Mk.cnt x.vars) x.params, body := Mk.mark (k + Mk.cnt x.name + Mk.cnt x.con + Mk.cnt x.vars + Mk.cnt x.params) x.body }, fun x => Mk.cnt x.name + Mk.cnt x.con + Mk.cnt x.vars + Mk.cnt x.params + Mk.cnt x.body⟩
instance : Mk Program := ⟨fun k x => { rules := Mk.mark (k) x.rules }, fun x => Mk.cnt x.rules⟩
instance : Mk Binding := ⟨fun k x => { name := Mk.mark (k) x.name, value := Mk.mark (k + Mk.cnt x.name) x.value }, fun x => Mk.cnt x.name + Mk.cnt x.value⟩
instance : Mk Outcome := ⟨fun k x => { status := Mk.mark (k) x.status, value := Mk.mark (k + Mk.cnt x.status) x.value, steps := Mk.mark (k + Mk.cnt x.status + Mk.cnt x.value) x.steps }, fun x => Mk.cnt x.status + Mk.cnt x.value + Mk.cnt x.steps⟩
instance : Mk General := ⟨fun k x => { term := Mk.mark (k) x.term, first := Mk.mark (k + Mk.cnt x.term) x.first, second := Mk.mark (k + Mk.cnt x.term + Mk.cnt x.first) x.second }, fun x => Mk.cnt x.term + Mk.cnt x.first + Mk.cnt x.second⟩
instance : Mk Branch := ⟨fun k x => { expr := Mk.mark (k) x.expr, var := Mk.mark (k + Mk.cnt x.expr) x.var, con := Mk.mark (k + Mk.cnt x.expr + Mk.cnt x.var) x.con, vars := Mk.mark (k + Mk.cnt x.expr + Mk.cnt x.var + Mk.cnt x.con) x.vars }, fun x => Mk.cnt x.expr + Mk.cnt x.var + Mk.cnt x.con + Mk.cnt x.vars⟩
instance : Mk Node := ⟨fun k x => { kind := Mk.mark (k) x.kind, expr := Mk.mark (k + Mk.cnt x.kind) x.expr, parent := Mk.mark (k + Mk.cnt x.kind + Mk.cnt x.expr) x.parent, children := Mk.mark (k + Mk.cnt x.kind + Mk.cnt x.expr + Mk.cnt x.parent) x.children, var := Mk.mark (k + Mk.cnt x.kind + Mk.cnt x.expr + Mk.cnt x.parent + Mk.cnt x.children) x.var, con := Mk.mark (k + Mk.cnt x.kind + Mk.cnt x.expr + Mk.cnt x.parent + Mk.cnt x.children + Mk.cnt x.var) x.con, vars := Mk.mark (k + Mk.cnt x.kind + Mk.cnt x.expr + Mk.cnt x.parent + Mk.cnt x.children + Mk.cnt x.var + Mk.cnt x.con) x.vars, lets := Mk.mark (k + Mk.cnt x.kind + Mk.cnt x.expr + Mk.cnt x.parent + Mk.cnt x.children + Mk.cnt x.var + Mk.cnt x.con + Mk.cnt x.vars) x.lets, back := Mk.mark (k + Mk.cnt x.kind + Mk.cnt x.expr + Mk.cnt x.parent + Mk.cnt x.children + Mk.cnt x.var + Mk.cnt x.con + Mk.cnt x.vars + Mk.cnt x.lets) x.back }, fun x => Mk.cnt x.kind + Mk.cnt x.expr + Mk.cnt x.parent + Mk.cnt x.children + Mk.cnt x.var + Mk.cnt x.con + Mk.cnt x.vars + Mk.cnt x.lets + Mk.cnt x.back⟩
instance : Mk Tree := ⟨fun k x => { nodes := Mk.mark (k) x.nodes }, fun x => Mk.cnt x.nodes⟩
instance : Mk Residual := ⟨fun k x => { program := Mk.mark (k) x.program, start := Mk.mark (k + Mk.cnt x.program) x.start }, fun x => Mk.cnt x.program + Mk.cnt x.start⟩
instance : Mk Shape := ⟨fun k x => { name := Mk.mark (k) x.name, arity := Mk.mark (k + Mk.cnt x.name) x.arity }, fun x => Mk.cnt x.name + Mk.cnt x.arity⟩
instance : Mk Comparison := ⟨fun k x => { cases := Mk.mark (k) x.cases, same := Mk.mark (k + Mk.cnt x.cases) x.same, opens := Mk.mark (k + Mk.cnt x.cases + Mk.cnt x.same) x.opens, source := Mk.mark (k + Mk.cnt x.cases + Mk.cnt x.same + Mk.cnt x.opens) x.source, target := Mk.mark (k + Mk.cnt x.cases + Mk.cnt x.same + Mk.cnt x.opens + Mk.cnt x.source) x.target }, fun x => Mk.cnt x.cases + Mk.cnt x.same + Mk.cnt x.opens + Mk.cnt x.source + Mk.cnt x.target⟩
instance : Mk Sorts := ⟨fun k x => { cons := Mk.mark (k) x.cons, ofs := Mk.mark (k + Mk.cnt x.cons) x.ofs, args := Mk.mark (k + Mk.cnt x.cons + Mk.cnt x.ofs) x.args, funs := Mk.mark (k + Mk.cnt x.cons + Mk.cnt x.ofs + Mk.cnt x.args) x.funs, params := Mk.mark (k + Mk.cnt x.cons + Mk.cnt x.ofs + Mk.cnt x.args + Mk.cnt x.funs) x.params, results := Mk.mark (k + Mk.cnt x.cons + Mk.cnt x.ofs + Mk.cnt x.args + Mk.cnt x.funs + Mk.cnt x.params) x.results, count := Mk.mark (k + Mk.cnt x.cons + Mk.cnt x.ofs + Mk.cnt x.args + Mk.cnt x.funs + Mk.cnt x.params + Mk.cnt x.results) x.count }, fun x => Mk.cnt x.cons + Mk.cnt x.ofs + Mk.cnt x.args + Mk.cnt x.funs + Mk.cnt x.params + Mk.cnt x.results + Mk.cnt x.count⟩
instance : Mk Typing := ⟨fun k x => { name := Mk.mark (k) x.name, sort := Mk.mark (k + Mk.cnt x.name) x.sort }, fun x => Mk.cnt x.name + Mk.cnt x.sort⟩
instance : Mk Verdict := ⟨fun k x => { code := Mk.mark (k) x.code, case := Mk.mark (k + Mk.cnt x.code) x.case }, fun x => Mk.cnt x.code + Mk.cnt x.case⟩
instance : Mk Variant := ⟨fun k x => { policy := Mk.mark (k) x.policy, residual := Mk.mark (k + Mk.cnt x.policy) x.residual, rules := Mk.mark (k + Mk.cnt x.policy + Mk.cnt x.residual) x.rules, steps := Mk.mark (k + Mk.cnt x.policy + Mk.cnt x.residual + Mk.cnt x.rules) x.steps }, fun x => Mk.cnt x.policy + Mk.cnt x.residual + Mk.cnt x.rules + Mk.cnt x.steps⟩
instance : Mk Event := ⟨fun k x => { node := Mk.mark (k) x.node, action := Mk.mark (k + Mk.cnt x.node) x.action, other := Mk.mark (k + Mk.cnt x.node + Mk.cnt x.action) x.other, nodes := Mk.mark (k + Mk.cnt x.node + Mk.cnt x.action + Mk.cnt x.other) x.nodes }, fun x => Mk.cnt x.node + Mk.cnt x.action + Mk.cnt x.other + Mk.cnt x.nodes⟩
instance : Mk Effort := ⟨fun k x => { status := Mk.mark (k) x.status, steps := Mk.mark (k + Mk.cnt x.status) x.steps, mats := Mk.mark (k + Mk.cnt x.status + Mk.cnt x.steps) x.mats }, fun x => Mk.cnt x.status + Mk.cnt x.steps + Mk.cnt x.mats⟩
instance : Mk Entry := ⟨fun k x => { goal := Mk.mark (k) x.goal, uses := Mk.mark (k + Mk.cnt x.goal) x.uses, done := Mk.mark (k + Mk.cnt x.goal + Mk.cnt x.uses) x.done, residual := Mk.mark (k + Mk.cnt x.goal + Mk.cnt x.uses + Mk.cnt x.done) x.residual }, fun x => Mk.cnt x.goal + Mk.cnt x.uses + Mk.cnt x.done + Mk.cnt x.residual⟩
instance : Mk Base := ⟨fun k x => { program := Mk.mark (k) x.program, entries := Mk.mark (k + Mk.cnt x.program) x.entries }, fun x => Mk.cnt x.program + Mk.cnt x.entries⟩
instance : Mk Session := ⟨fun k x => { text := Mk.mark (k) x.text, goal := Mk.mark (k + Mk.cnt x.text) x.goal, tree := Mk.mark (k + Mk.cnt x.text + Mk.cnt x.goal) x.tree, residual := Mk.mark (k + Mk.cnt x.text + Mk.cnt x.goal + Mk.cnt x.tree) x.residual }, fun x => Mk.cnt x.text + Mk.cnt x.goal + Mk.cnt x.tree + Mk.cnt x.residual⟩
instance : Mk Shared := ⟨fun k x => { status := Mk.mark (k) x.status, value := Mk.mark (k + Mk.cnt x.status) x.value, steps := Mk.mark (k + Mk.cnt x.status + Mk.cnt x.value) x.steps, cels := Mk.mark (k + Mk.cnt x.status + Mk.cnt x.value + Mk.cnt x.steps) x.cels }, fun x => Mk.cnt x.status + Mk.cnt x.value + Mk.cnt x.steps + Mk.cnt x.cels⟩
theorem Expr.markc {o : Bool} {k : Nat} {a0 : Int} {a1 : ByteArray} {a2 : List Expr} : G.cells o (Mk.mark k (⟨a0, a1, a2⟩ : Expr)) = [.int .i64 (I (k)), .str (mt (k + 1)), .sl o 3 (rows o (mkL (k + 2) a2))] := by rw [Expr.mark, Expr.cells]
theorem Expr.cntc {a0 : Int} {a1 : ByteArray} {a2 : List Expr} : Mk.cnt (⟨a0, a1, a2⟩ : Expr) = 2 + cntL a2 := by
  simp only [Mk.cnt, Expr.cntE, Expr.cntsE_eq]
  try simp only [Nat.add_assoc]
theorem Rule.markc {o : Bool} {k : Nat} {a0 : ByteArray} {a1 : ByteArray} {a2 : List ByteArray} {a3 : List ByteArray} {a4 : Int} {a5 : ByteArray} {a6 : List Expr} : G.cells o (Mk.mark k (⟨a0, a1, a2, a3, ⟨a4, a5, a6⟩⟩ : Rule)) = [.str (mt (k)), .str (mt (k + 1)), .sl o 1 (rows o (mkL (k + 1 + 1) a2)), .sl o 1 (rows o (mkL (k + 1 + 1 + cntL a2) a3)), .int .i64 (I (k + 1 + 1 + cntL a2 + cntL a3)), .str (mt (k + 1 + 1 + cntL a2 + cntL a3 + 1)), .sl o 3 (rows o (mkL (k + 1 + 1 + cntL a2 + cntL a3 + 2) a6))] := by
  rw [Rule.cells]
  simp only [Mk.mark, Mk.cnt, Expr.markE, Expr.cntE, Expr.marksE_eq, Expr.cntsE_eq]
  try simp only [Nat.add_assoc]
theorem Rule.cntc {a0 : ByteArray} {a1 : ByteArray} {a2 : List ByteArray} {a3 : List ByteArray} {a4 : Int} {a5 : ByteArray} {a6 : List Expr} : Mk.cnt (⟨a0, a1, a2, a3, ⟨a4, a5, a6⟩⟩ : Rule) = 1 + 1 + cntL a2 + cntL a3 + (2 + cntL a6) := by
  simp only [Mk.cnt, Expr.cntE, Expr.cntsE_eq]
  try simp only [Nat.add_assoc]
theorem Program.markc {o : Bool} {k : Nat} {a0 : List Rule} : G.cells o (Mk.mark k (⟨a0⟩ : Program)) = [.sl o 7 (rows o (mkL (k) a0))] := by
  rw [Program.cells]
  simp only [Mk.mark, Mk.cnt, Expr.markE, Expr.cntE, Expr.marksE_eq, Expr.cntsE_eq]
  try simp only [Nat.add_assoc]
theorem Program.cntc {a0 : List Rule} : Mk.cnt (⟨a0⟩ : Program) = cntL a0 := by
  simp only [Mk.cnt, Expr.cntE, Expr.cntsE_eq]
  try simp only [Nat.add_assoc]
theorem Binding.markc {o : Bool} {k : Nat} {a0 : ByteArray} {a1 : Int} {a2 : ByteArray} {a3 : List Expr} : G.cells o (Mk.mark k (⟨a0, ⟨a1, a2, a3⟩⟩ : Binding)) = [.str (mt (k)), .int .i64 (I (k + 1)), .str (mt (k + 1 + 1)), .sl o 3 (rows o (mkL (k + 1 + 2) a3))] := by
  rw [Binding.cells]
  simp only [Mk.mark, Mk.cnt, Expr.markE, Expr.cntE, Expr.marksE_eq, Expr.cntsE_eq]
  try simp only [Nat.add_assoc]
theorem Binding.cntc {a0 : ByteArray} {a1 : Int} {a2 : ByteArray} {a3 : List Expr} : Mk.cnt (⟨a0, ⟨a1, a2, a3⟩⟩ : Binding) = 1 + (2 + cntL a3) := by
  simp only [Mk.cnt, Expr.cntE, Expr.cntsE_eq]
  try simp only [Nat.add_assoc]
theorem Outcome.markc {o : Bool} {k : Nat} {a0 : Int} {a1 : Int} {a2 : ByteArray} {a3 : List Expr} {a4 : Int} : G.cells o (Mk.mark k (⟨a0, ⟨a1, a2, a3⟩, a4⟩ : Outcome)) = [.int .i64 (I (k)), .int .i64 (I (k + 1)), .str (mt (k + 1 + 1)), .sl o 3 (rows o (mkL (k + 1 + 2) a3)), .int .i64 (I (k + 1 + (2 + cntL a3)))] := by
  rw [Outcome.cells]
  simp only [Mk.mark, Mk.cnt, Expr.markE, Expr.cntE, Expr.marksE_eq, Expr.cntsE_eq]
  try simp only [Nat.add_assoc]
theorem Outcome.cntc {a0 : Int} {a1 : Int} {a2 : ByteArray} {a3 : List Expr} {a4 : Int} : Mk.cnt (⟨a0, ⟨a1, a2, a3⟩, a4⟩ : Outcome) = 1 + (2 + cntL a3) + 1 := by
  simp only [Mk.cnt, Expr.cntE, Expr.cntsE_eq]
  try simp only [Nat.add_assoc]
theorem General.markc {o : Bool} {k : Nat} {a0 : Int} {a1 : ByteArray} {a2 : List Expr} {a3 : List Binding} {a4 : List Binding} : G.cells o (Mk.mark k (⟨⟨a0, a1, a2⟩, a3, a4⟩ : General)) = [.int .i64 (I (k)), .str (mt (k + 1)), .sl o 3 (rows o (mkL (k + 2) a2)), .sl o 4 (rows o (mkL (k + (2 + cntL a2)) a3)), .sl o 4 (rows o (mkL (k + (2 + cntL a2) + cntL a3) a4))] := by
  rw [General.cells]
  simp only [Mk.mark, Mk.cnt, Expr.markE, Expr.cntE, Expr.marksE_eq, Expr.cntsE_eq]
  try simp only [Nat.add_assoc]
theorem General.cntc {a0 : Int} {a1 : ByteArray} {a2 : List Expr} {a3 : List Binding} {a4 : List Binding} : Mk.cnt (⟨⟨a0, a1, a2⟩, a3, a4⟩ : General) = (2 + cntL a2) + cntL a3 + cntL a4 := by
  simp only [Mk.cnt, Expr.cntE, Expr.cntsE_eq]
  try simp only [Nat.add_assoc]
theorem Branch.markc {o : Bool} {k : Nat} {a0 : Int} {a1 : ByteArray} {a2 : List Expr} {a3 : ByteArray} {a4 : ByteArray} {a5 : List ByteArray} : G.cells o (Mk.mark k (⟨⟨a0, a1, a2⟩, a3, a4, a5⟩ : Branch)) = [.int .i64 (I (k)), .str (mt (k + 1)), .sl o 3 (rows o (mkL (k + 2) a2)), .str (mt (k + (2 + cntL a2))), .str (mt (k + (2 + cntL a2) + 1)), .sl o 1 (rows o (mkL (k + (2 + cntL a2) + 1 + 1) a5))] := by
  rw [Branch.cells]
  simp only [Mk.mark, Mk.cnt, Expr.markE, Expr.cntE, Expr.marksE_eq, Expr.cntsE_eq]
  try simp only [Nat.add_assoc]
theorem Branch.cntc {a0 : Int} {a1 : ByteArray} {a2 : List Expr} {a3 : ByteArray} {a4 : ByteArray} {a5 : List ByteArray} : Mk.cnt (⟨⟨a0, a1, a2⟩, a3, a4, a5⟩ : Branch) = (2 + cntL a2) + 1 + 1 + cntL a5 := by
  simp only [Mk.cnt, Expr.cntE, Expr.cntsE_eq]
  try simp only [Nat.add_assoc]
theorem Node.markc {o : Bool} {k : Nat} {a0 : Int} {a1 : Int} {a2 : ByteArray} {a3 : List Expr} {a4 : Int} {a5 : List Int} {a6 : ByteArray} {a7 : ByteArray} {a8 : List ByteArray} {a9 : List Binding} {a10 : Int} : G.cells o (Mk.mark k (⟨a0, ⟨a1, a2, a3⟩, a4, a5, a6, a7, a8, a9, a10⟩ : Node)) = [.int .i64 (I (k)), .int .i64 (I (k + 1)), .str (mt (k + 1 + 1)), .sl o 3 (rows o (mkL (k + 1 + 2) a3)), .int .i64 (I (k + 1 + (2 + cntL a3))), .sl o 1 (rows o (mkL (k + 1 + (2 + cntL a3) + 1) a5)), .str (mt (k + 1 + (2 + cntL a3) + 1 + cntL a5)), .str (mt (k + 1 + (2 + cntL a3) + 1 + cntL a5 + 1)), .sl o 1 (rows o (mkL (k + 1 + (2 + cntL a3) + 1 + cntL a5 + 1 + 1) a8)), .sl o 4 (rows o (mkL (k + 1 + (2 + cntL a3) + 1 + cntL a5 + 1 + 1 + cntL a8) a9)), .int .i64 (I (k + 1 + (2 + cntL a3) + 1 + cntL a5 + 1 + 1 + cntL a8 + cntL a9))] := by
  rw [Node.cells]
  simp only [Mk.mark, Mk.cnt, Expr.markE, Expr.cntE, Expr.marksE_eq, Expr.cntsE_eq]
  try simp only [Nat.add_assoc]
theorem Node.cntc {a0 : Int} {a1 : Int} {a2 : ByteArray} {a3 : List Expr} {a4 : Int} {a5 : List Int} {a6 : ByteArray} {a7 : ByteArray} {a8 : List ByteArray} {a9 : List Binding} {a10 : Int} : Mk.cnt (⟨a0, ⟨a1, a2, a3⟩, a4, a5, a6, a7, a8, a9, a10⟩ : Node) = 1 + (2 + cntL a3) + 1 + cntL a5 + 1 + 1 + cntL a8 + cntL a9 + 1 := by
  simp only [Mk.cnt, Expr.cntE, Expr.cntsE_eq]
  try simp only [Nat.add_assoc]
theorem Tree.markc {o : Bool} {k : Nat} {a0 : List Node} : G.cells o (Mk.mark k (⟨a0⟩ : Tree)) = [.sl o 11 (rows o (mkL (k) a0))] := by
  rw [Tree.cells]
  simp only [Mk.mark, Mk.cnt, Expr.markE, Expr.cntE, Expr.marksE_eq, Expr.cntsE_eq]
  try simp only [Nat.add_assoc]
theorem Tree.cntc {a0 : List Node} : Mk.cnt (⟨a0⟩ : Tree) = cntL a0 := by
  simp only [Mk.cnt, Expr.cntE, Expr.cntsE_eq]
  try simp only [Nat.add_assoc]
theorem Residual.markc {o : Bool} {k : Nat} {a0 : List Rule} {a1 : Int} {a2 : ByteArray} {a3 : List Expr} : G.cells o (Mk.mark k (⟨⟨a0⟩, ⟨a1, a2, a3⟩⟩ : Residual)) = [.sl o 7 (rows o (mkL (k) a0)), .int .i64 (I (k + cntL a0)), .str (mt (k + cntL a0 + 1)), .sl o 3 (rows o (mkL (k + cntL a0 + 2) a3))] := by
  rw [Residual.cells]
  simp only [Mk.mark, Mk.cnt, Expr.markE, Expr.cntE, Expr.marksE_eq, Expr.cntsE_eq]
  try simp only [Nat.add_assoc]
theorem Residual.cntc {a0 : List Rule} {a1 : Int} {a2 : ByteArray} {a3 : List Expr} : Mk.cnt (⟨⟨a0⟩, ⟨a1, a2, a3⟩⟩ : Residual) = cntL a0 + (2 + cntL a3) := by
  simp only [Mk.cnt, Expr.cntE, Expr.cntsE_eq]
  try simp only [Nat.add_assoc]
theorem Shape.markc {o : Bool} {k : Nat} {a0 : ByteArray} {a1 : Int} : G.cells o (Mk.mark k (⟨a0, a1⟩ : Shape)) = [.str (mt (k)), .int .i64 (I (k + 1))] := by
  rw [Shape.cells]
  simp only [Mk.mark, Mk.cnt, Expr.markE, Expr.cntE, Expr.marksE_eq, Expr.cntsE_eq]
  try simp only [Nat.add_assoc]
theorem Shape.cntc {a0 : ByteArray} {a1 : Int} : Mk.cnt (⟨a0, a1⟩ : Shape) = 1 + 1 := by
  simp only [Mk.cnt, Expr.cntE, Expr.cntsE_eq]
  try simp only [Nat.add_assoc]
theorem Comparison.markc {o : Bool} {k : Nat} {a0 : Int} {a1 : Int} {a2 : Int} {a3 : Int} {a4 : Int} : G.cells o (Mk.mark k (⟨a0, a1, a2, a3, a4⟩ : Comparison)) = [.int .i64 (I (k)), .int .i64 (I (k + 1)), .int .i64 (I (k + 1 + 1)), .int .i64 (I (k + 1 + 1 + 1)), .int .i64 (I (k + 1 + 1 + 1 + 1))] := by
  rw [Comparison.cells]
  simp only [Mk.mark, Mk.cnt, Expr.markE, Expr.cntE, Expr.marksE_eq, Expr.cntsE_eq]
  try simp only [Nat.add_assoc]
theorem Comparison.cntc {a0 : Int} {a1 : Int} {a2 : Int} {a3 : Int} {a4 : Int} : Mk.cnt (⟨a0, a1, a2, a3, a4⟩ : Comparison) = 1 + 1 + 1 + 1 + 1 := by
  simp only [Mk.cnt, Expr.cntE, Expr.cntsE_eq]
  try simp only [Nat.add_assoc]
theorem Sorts.markc {o : Bool} {k : Nat} {a0 : List ByteArray} {a1 : List Int} {a2 : List (List Int)} {a3 : List ByteArray} {a4 : List (List Int)} {a5 : List Int} {a6 : Int} : G.cells o (Mk.mark k (⟨a0, a1, a2, a3, a4, a5, a6⟩ : Sorts)) = [.sl o 1 (rows o (mkL (k) a0)), .sl o 1 (rows o (mkL (k + cntL a0) a1)), .sl o 1 (rows o (mkL (k + cntL a0 + cntL a1) a2)), .sl o 1 (rows o (mkL (k + cntL a0 + cntL a1 + cntL a2) a3)), .sl o 1 (rows o (mkL (k + cntL a0 + cntL a1 + cntL a2 + cntL a3) a4)), .sl o 1 (rows o (mkL (k + cntL a0 + cntL a1 + cntL a2 + cntL a3 + cntL a4) a5)), .int .i64 (I (k + cntL a0 + cntL a1 + cntL a2 + cntL a3 + cntL a4 + cntL a5))] := by
  rw [Sorts.cells]
  simp only [Mk.mark, Mk.cnt, Expr.markE, Expr.cntE, Expr.marksE_eq, Expr.cntsE_eq]
  try simp only [Nat.add_assoc]
theorem Sorts.cntc {a0 : List ByteArray} {a1 : List Int} {a2 : List (List Int)} {a3 : List ByteArray} {a4 : List (List Int)} {a5 : List Int} {a6 : Int} : Mk.cnt (⟨a0, a1, a2, a3, a4, a5, a6⟩ : Sorts) = cntL a0 + cntL a1 + cntL a2 + cntL a3 + cntL a4 + cntL a5 + 1 := by
  simp only [Mk.cnt, Expr.cntE, Expr.cntsE_eq]
  try simp only [Nat.add_assoc]
theorem Typing.markc {o : Bool} {k : Nat} {a0 : ByteArray} {a1 : Int} : G.cells o (Mk.mark k (⟨a0, a1⟩ : Typing)) = [.str (mt (k)), .int .i64 (I (k + 1))] := by
  rw [Typing.cells]
  simp only [Mk.mark, Mk.cnt, Expr.markE, Expr.cntE, Expr.marksE_eq, Expr.cntsE_eq]
  try simp only [Nat.add_assoc]
theorem Typing.cntc {a0 : ByteArray} {a1 : Int} : Mk.cnt (⟨a0, a1⟩ : Typing) = 1 + 1 := by
  simp only [Mk.cnt, Expr.cntE, Expr.cntsE_eq]
  try simp only [Nat.add_assoc]
theorem Verdict.markc {o : Bool} {k : Nat} {a0 : Int} {a1 : List Binding} : G.cells o (Mk.mark k (⟨a0, a1⟩ : Verdict)) = [.int .i64 (I (k)), .sl o 4 (rows o (mkL (k + 1) a1))] := by
  rw [Verdict.cells]
  simp only [Mk.mark, Mk.cnt, Expr.markE, Expr.cntE, Expr.marksE_eq, Expr.cntsE_eq]
  try simp only [Nat.add_assoc]
theorem Verdict.cntc {a0 : Int} {a1 : List Binding} : Mk.cnt (⟨a0, a1⟩ : Verdict) = 1 + cntL a1 := by
  simp only [Mk.cnt, Expr.cntE, Expr.cntsE_eq]
  try simp only [Nat.add_assoc]
theorem Variant.markc {o : Bool} {k : Nat} {a0 : Int} {a1 : List Rule} {a2 : Int} {a3 : ByteArray} {a4 : List Expr} {a5 : Int} {a6 : Int} : G.cells o (Mk.mark k (⟨a0, ⟨⟨a1⟩, ⟨a2, a3, a4⟩⟩, a5, a6⟩ : Variant)) = [.int .i64 (I (k)), .sl o 7 (rows o (mkL (k + 1) a1)), .int .i64 (I (k + 1 + cntL a1)), .str (mt (k + 1 + cntL a1 + 1)), .sl o 3 (rows o (mkL (k + 1 + cntL a1 + 2) a4)), .int .i64 (I (k + 1 + cntL a1 + (2 + cntL a4))), .int .i64 (I (k + 1 + cntL a1 + (2 + cntL a4) + 1))] := by
  rw [Variant.cells]
  simp only [Mk.mark, Mk.cnt, Expr.markE, Expr.cntE, Expr.marksE_eq, Expr.cntsE_eq]
  try simp only [Nat.add_assoc]
theorem Variant.cntc {a0 : Int} {a1 : List Rule} {a2 : Int} {a3 : ByteArray} {a4 : List Expr} {a5 : Int} {a6 : Int} : Mk.cnt (⟨a0, ⟨⟨a1⟩, ⟨a2, a3, a4⟩⟩, a5, a6⟩ : Variant) = 1 + cntL a1 + (2 + cntL a4) + 1 + 1 := by
  simp only [Mk.cnt, Expr.cntE, Expr.cntsE_eq]
  try simp only [Nat.add_assoc]
theorem Event.markc {o : Bool} {k : Nat} {a0 : Int} {a1 : Int} {a2 : Int} {a3 : Int} : G.cells o (Mk.mark k (⟨a0, a1, a2, a3⟩ : Event)) = [.int .i64 (I (k)), .int .i64 (I (k + 1)), .int .i64 (I (k + 1 + 1)), .int .i64 (I (k + 1 + 1 + 1))] := by
  rw [Event.cells]
  simp only [Mk.mark, Mk.cnt, Expr.markE, Expr.cntE, Expr.marksE_eq, Expr.cntsE_eq]
  try simp only [Nat.add_assoc]
theorem Event.cntc {a0 : Int} {a1 : Int} {a2 : Int} {a3 : Int} : Mk.cnt (⟨a0, a1, a2, a3⟩ : Event) = 1 + 1 + 1 + 1 := by
  simp only [Mk.cnt, Expr.cntE, Expr.cntsE_eq]
  try simp only [Nat.add_assoc]
theorem Effort.markc {o : Bool} {k : Nat} {a0 : Int} {a1 : Int} {a2 : Int} : G.cells o (Mk.mark k (⟨a0, a1, a2⟩ : Effort)) = [.int .i64 (I (k)), .int .i64 (I (k + 1)), .int .i64 (I (k + 1 + 1))] := by
  rw [Effort.cells]
  simp only [Mk.mark, Mk.cnt, Expr.markE, Expr.cntE, Expr.marksE_eq, Expr.cntsE_eq]
  try simp only [Nat.add_assoc]
theorem Effort.cntc {a0 : Int} {a1 : Int} {a2 : Int} : Mk.cnt (⟨a0, a1, a2⟩ : Effort) = 1 + 1 + 1 := by
  simp only [Mk.cnt, Expr.cntE, Expr.cntsE_eq]
  try simp only [Nat.add_assoc]
theorem Entry.markc {o : Bool} {k : Nat} {a0 : Int} {a1 : ByteArray} {a2 : List Expr} {a3 : List ByteArray} {a4 : Bool} {a5 : List Rule} {a6 : Int} {a7 : ByteArray} {a8 : List Expr} : G.cells o (Mk.mark k (⟨⟨a0, a1, a2⟩, a3, a4, ⟨⟨a5⟩, ⟨a6, a7, a8⟩⟩⟩ : Entry)) = [.int .i64 (I (k)), .str (mt (k + 1)), .sl o 3 (rows o (mkL (k + 2) a2)), .sl o 1 (rows o (mkL (k + (2 + cntL a2)) a3)), .bool ((k + (2 + cntL a2) + cntL a3) % 3 == 0), .sl o 7 (rows o (mkL (k + (2 + cntL a2) + cntL a3 + 1) a5)), .int .i64 (I (k + (2 + cntL a2) + cntL a3 + 1 + cntL a5)), .str (mt (k + (2 + cntL a2) + cntL a3 + 1 + cntL a5 + 1)), .sl o 3 (rows o (mkL (k + (2 + cntL a2) + cntL a3 + 1 + cntL a5 + 2) a8))] := by
  rw [Entry.cells]
  simp only [Mk.mark, Mk.cnt, Expr.markE, Expr.cntE, Expr.marksE_eq, Expr.cntsE_eq]
  try simp only [Nat.add_assoc]
theorem Entry.cntc {a0 : Int} {a1 : ByteArray} {a2 : List Expr} {a3 : List ByteArray} {a4 : Bool} {a5 : List Rule} {a6 : Int} {a7 : ByteArray} {a8 : List Expr} : Mk.cnt (⟨⟨a0, a1, a2⟩, a3, a4, ⟨⟨a5⟩, ⟨a6, a7, a8⟩⟩⟩ : Entry) = (2 + cntL a2) + cntL a3 + 1 + cntL a5 + (2 + cntL a8) := by
  simp only [Mk.cnt, Expr.cntE, Expr.cntsE_eq]
  try simp only [Nat.add_assoc]
theorem Base.markc {o : Bool} {k : Nat} {a0 : List Rule} {a1 : List Entry} : G.cells o (Mk.mark k (⟨⟨a0⟩, a1⟩ : Base)) = [.sl o 7 (rows o (mkL (k) a0)), .sl o 9 (rows o (mkL (k + cntL a0) a1))] := by
  rw [Base.cells]
  simp only [Mk.mark, Mk.cnt, Expr.markE, Expr.cntE, Expr.marksE_eq, Expr.cntsE_eq]
  try simp only [Nat.add_assoc]
theorem Base.cntc {a0 : List Rule} {a1 : List Entry} : Mk.cnt (⟨⟨a0⟩, a1⟩ : Base) = cntL a0 + cntL a1 := by
  simp only [Mk.cnt, Expr.cntE, Expr.cntsE_eq]
  try simp only [Nat.add_assoc]
theorem Session.markc {o : Bool} {k : Nat} {a0 : ByteArray} {a1 : Int} {a2 : ByteArray} {a3 : List Expr} {a4 : List Node} {a5 : List Rule} {a6 : Int} {a7 : ByteArray} {a8 : List Expr} : G.cells o (Mk.mark k (⟨a0, ⟨a1, a2, a3⟩, ⟨a4⟩, ⟨⟨a5⟩, ⟨a6, a7, a8⟩⟩⟩ : Session)) = [.str (mt (k)), .int .i64 (I (k + 1)), .str (mt (k + 1 + 1)), .sl o 3 (rows o (mkL (k + 1 + 2) a3)), .sl o 11 (rows o (mkL (k + 1 + (2 + cntL a3)) a4)), .sl o 7 (rows o (mkL (k + 1 + (2 + cntL a3) + cntL a4) a5)), .int .i64 (I (k + 1 + (2 + cntL a3) + cntL a4 + cntL a5)), .str (mt (k + 1 + (2 + cntL a3) + cntL a4 + cntL a5 + 1)), .sl o 3 (rows o (mkL (k + 1 + (2 + cntL a3) + cntL a4 + cntL a5 + 2) a8))] := by
  rw [Session.cells]
  simp only [Mk.mark, Mk.cnt, Expr.markE, Expr.cntE, Expr.marksE_eq, Expr.cntsE_eq]
  try simp only [Nat.add_assoc]
theorem Session.cntc {a0 : ByteArray} {a1 : Int} {a2 : ByteArray} {a3 : List Expr} {a4 : List Node} {a5 : List Rule} {a6 : Int} {a7 : ByteArray} {a8 : List Expr} : Mk.cnt (⟨a0, ⟨a1, a2, a3⟩, ⟨a4⟩, ⟨⟨a5⟩, ⟨a6, a7, a8⟩⟩⟩ : Session) = 1 + (2 + cntL a3) + cntL a4 + cntL a5 + (2 + cntL a8) := by
  simp only [Mk.cnt, Expr.cntE, Expr.cntsE_eq]
  try simp only [Nat.add_assoc]
theorem Shared.markc {o : Bool} {k : Nat} {a0 : Int} {a1 : Int} {a2 : ByteArray} {a3 : List Expr} {a4 : Int} {a5 : Int} : G.cells o (Mk.mark k (⟨a0, ⟨a1, a2, a3⟩, a4, a5⟩ : Shared)) = [.int .i64 (I (k)), .int .i64 (I (k + 1)), .str (mt (k + 1 + 1)), .sl o 3 (rows o (mkL (k + 1 + 2) a3)), .int .i64 (I (k + 1 + (2 + cntL a3))), .int .i64 (I (k + 1 + (2 + cntL a3) + 1))] := by
  rw [Shared.cells]
  simp only [Mk.mark, Mk.cnt, Expr.markE, Expr.cntE, Expr.marksE_eq, Expr.cntsE_eq]
  try simp only [Nat.add_assoc]
theorem Shared.cntc {a0 : Int} {a1 : Int} {a2 : ByteArray} {a3 : List Expr} {a4 : Int} {a5 : Int} : Mk.cnt (⟨a0, ⟨a1, a2, a3⟩, a4, a5⟩ : Shared) = 1 + (2 + cntL a3) + 1 + 1 := by
  simp only [Mk.cnt, Expr.cntE, Expr.cntsE_eq]
  try simp only [Nat.add_assoc]
end D
end Vx

namespace Vx
open Go Classical
set_option linter.unusedVariables false
set_option linter.unusedSimpArgs false

/-! ## What a function computes, over data: the words in which the bodies are printed -/
section
variable {α : Type}
def addw (a b : Int) : Int := IntKind.i64.wrap (a + b)
def subw (a b : Int) : Int := IntKind.i64.wrap (a - b)
def mulw (a b : Int) : Int := IntKind.i64.wrap (a * b)
def negw (a : Int) : Int := IntKind.i64.wrap (-a)
def lti (a b : Int) : Bool := decide (a < b)
def lei (a b : Int) : Bool := decide (a ≤ b)
def gti (a b : Int) : Bool := decide (b < a)
def gei (a b : Int) : Bool := decide (b ≤ a)
def eqi (a b : Int) : Bool := decide (a = b)
def nei (a b : Int) : Bool := decide (a ≠ b)
noncomputable def eqs (a b : ByteArray) : Bool := decide (a = b)
noncomputable def nes (a b : ByteArray) : Bool := decide (a ≠ b)
def lts (a b : ByteArray) : Bool := Op.bytesLess a.toList b.toList
def eqb (a b : Bool) : Bool := a == b
def neb (a b : Bool) : Bool := a != b
def notb (a : Bool) : Bool := !a
def len (l : List α) : Int := I l.length
def leno (l : List α) : Int := I l.length
def slen (s : ByteArray) : Int := I s.size
def nth (l : List α) (i : Int) : Option α := if 0 ≤ i then l[i.toNat]? else none
def setn (l : List α) (i : Int) (x : α) : Option (List α) := if 0 ≤ i ∧ i.toNat < l.length then some (l.set i.toNat x) else none
def push (l : List α) (x : α) : Option (List α) := if l.length + 1 ≤ LIM then some (l ++ [x]) else none
def app (l m : List α) : Option (List α) := if l.length + m.length ≤ LIM then some (l ++ m) else none
def mkl (n : Int) (x : α) : Option (List α) := if 0 ≤ n ∧ n ≤ (2 ^ 38 : Nat) then some (List.replicate n.toNat x) else none
def cut (l : List α) (i j : Int) : Option (List α) := if 0 ≤ i ∧ i ≤ j ∧ j ≤ l.length then some ((l.take j.toNat).drop i.toNat) else none
def scat (a b : ByteArray) : Option ByteArray := if a.size + b.size ≤ LIM then some (a ++ b) else none
def snth (s : ByteArray) (i : Int) : Option Int := byteAt s i
def scut (s : ByteArray) (i j : Int) : Option ByteArray := cutStr s i j
def quow (a b : Int) : Option Int := if b ≠ 0 then some (IntKind.i64.wrap (a.tdiv b)) else none
def remw (a b : Int) : Option Int := if b ≠ 0 then some (a.tmod b) else none
def maxw (a b : Int) : Int := if b > a then b else a
def minw (a b : Int) : Int := if b < a then b else a
end
/-- Maps from strings to numbers: the pairs, in the order in which the keys came. -/
noncomputable def mget : List (ByteArray × Int) → ByteArray → Int
  | [], _ => 0
  | e :: l, k => if k = e.1 then e.2 else mget l k
noncomputable def mhas : List (ByteArray × Int) → ByteArray → Bool
  | [], _ => false
  | e :: l, k => if k = e.1 then true else mhas l k
noncomputable def mset : List (ByteArray × Int) → ByteArray → Int → List (ByteArray × Int)
  | [], k, v => [(k, v)]
  | e :: l, k, v => if k = e.1 then (e.1, v) :: l else e :: mset l k v
def prs (l : List (ByteArray × Int)) : List (T × T) := l.map fun p => (.str p.1, .int .i64 p.2)

/-! ### Loops -/
inductive Loop {σ ρ : Type} (f : σ → Option (σ ⊕ ρ)) : σ → ρ → Prop where
  | done {s r} (h : f s = some (.inr r)) : Loop f s r
  | step {s s' r} (h : f s = some (.inl s')) (t : Loop f s' r) : Loop f s r
/-- What a loop ends with, if it ends. -/
noncomputable def loopC {σ ρ : Type} (f : σ → Option (σ ⊕ ρ)) (s : σ) : Option ρ := if h : ∃ r, Loop f s r then some (choose h) else none
theorem Loop.det {σ ρ : Type} {f : σ → Option (σ ⊕ ρ)} {s : σ} {r r' : ρ} (h : Loop f s r) (h' : Loop f s r') : r = r' := by
  induction h with
  | done h =>
    cases h' with
    | done h2 => rw [h] at h2; cases h2; rfl
    | step h2 t => rw [h] at h2; cases h2
  | step h t ih =>
    cases h' with
    | done h2 => rw [h] at h2; cases h2
    | step h2 t2 => rw [h] at h2; cases h2; exact ih t2
theorem Loop.eq {σ ρ : Type} {f : σ → Option (σ ⊕ ρ)} {s : σ} {r : ρ} (h : Loop f s r) : loopC f s = some r := by
  have hex : ∃ r, Loop f s r := ⟨r, h⟩
  simp only [loopC, dif_pos hex]
  rw [(choose_spec hex).det h]
theorem Loop.of {σ ρ : Type} {f : σ → Option (σ ⊕ ρ)} {s : σ} {r : ρ} (h : loopC f s = some r) : Loop f s r := by
  unfold loopC at h
  split at h
  · rename_i hex
    cases h
    exact choose_spec hex
  · cases h
/-- One round. -/
theorem loopC_eq {σ ρ : Type} (f : σ → Option (σ ⊕ ρ)) (s : σ) : loopC f s = (f s).bind fun x => match x with | .inl s' => loopC f s' | .inr r => some r := by
  cases hf : f s with
  | none =>
    simp only [Option.bind_none]
    unfold loopC
    rw [dif_neg]
    rintro ⟨r, h⟩
    cases h with
    | done h => rw [hf] at h; cases h
    | step h _ => rw [hf] at h; cases h
  | some x =>
    simp only [Option.bind_some]
    cases x with
    | inr r => exact (Loop.done hf).eq
    | inl s' =>
      simp only
      cases h' : loopC f s' with
      | some r => exact (Loop.step hf (Loop.of h')).eq
      | none =>
        cases h : loopC f s with
        | none => rfl
        | some r =>
          cases Loop.of h with
          | done h2 => rw [hf] at h2; cases h2
          | step h2 t => rw [hf] at h2; cases h2; rw [t.eq] at h'; cases h'
theorem Loop.path {σ ρ : Type} {f : σ → Option (σ ⊕ ρ)} {a : σ} {r : ρ} (h : Loop f a r) : ∃ (n : Nat) (c : Nat → σ), c 0 = a ∧ (∀ i, i < n → f (c i) = some (.inl (c (i + 1)))) ∧ f (c n) = some (.inr r) := by
  induction h with
  | @done a r h => exact ⟨0, fun _ => a, rfl, fun i hi => absurd hi (Nat.not_lt_zero i), h⟩
  | @step a a' r h t ih =>
    obtain ⟨n, c, c0, c1, c2⟩ := ih
    refine ⟨n + 1, fun i => match i with | 0 => a | i + 1 => c i, rfl, fun i hi => ?_, c2⟩
    cases i with
    | zero => simp only; rw [c0]; exact h
    | succ i => exact c1 i (by omega)
/-- A loop of the machine goes as the loop of its model. -/
theorem aloop_C {σ ρ : Type} {f : σ → Option (σ ⊕ ρ)} {s0 : σ} {r : ρ} (h : loopC f s0 = some r) {body : (AX → St → Prop) → St → Prop} {Q : AX → St → Prop} {s : St} (kl ol : List Nat) (S : σ → St) (h0 : s.only kl ol = S s0)
    (hb : ∀ a x, f a = some x → (∀ y, x = .inr y → r = y) → ∀ K : AX → St → Prop, (∀ a' s2, x = .inl a' → s2.only kl ol = S a' → K .normal s2) → (∀ id s2, Q (.exit id) s2 → K (.exit id) s2) → (∀ s2, Q .ret s2 → K .ret s2) → body K (S a)) : aloop body Q s := by
  obtain ⟨N, c, c0, c1, c2⟩ := (Loop.of h).path
  refine ⟨kl, ol, fun n s => ∃ i, i + n = N ∧ s = S (c i), ⟨N, 0, Nat.zero_add _, by rw [c0]; exact h0⟩, ?_⟩
  rintro n s ⟨i, hi, rfl⟩
  cases n with
  | zero =>
    have : i = N := by omega
    subst this
    exact hb _ _ c2 (fun y e => by cases e; rfl) _ (fun a' s2 e => by cases e) (fun _ _ h => h) (fun _ h => h)
  | succ n =>
    exact hb _ _ (c1 i (by omega)) (fun y e => by cases e) _ (fun a' s2 e h => ⟨n, Nat.lt_succ_self n, i + 1, by omega, by cases e; exact h⟩) (fun _ _ h => h) (fun _ h => h)
theorem bd {α β : Type} {x : Option α} {f : α → Option β} {r : β} (h : x.bind f = some r) : ∃ a, x = some a ∧ f a = some r := Option.bind_eq_some_iff.1 h

/-! ### What the machine's names stand for, over data -/
abbrev RW := ∀ {α : Type} [G α], Bool → List α → List (List T)
section
variable {ar : BinOp → IntKind → Int → Int → Int} {cm : BinOp → Int → Int → Bool} {sc : BinOp → ByteArray → ByteArray → Bool} {bc : BinOp → Bool → Bool → Bool} {nt : Bool → Bool} {ng : IntKind → Int → Int}
  {ln : List (List T) → Int} {sz : ByteArray → Int} {tn : Int → Nat} {idx : List (List T) → Int → Option (List T)} {get : List (List T) → Nat → Option (List T)} {set : List (List T) → Nat → List T → List (List T)} {vw : List (List T) → List (List T)}
  {rep : Int → Int → List T → Option (List (List T))} {nf : Bool → List (List T) → Bool} {dv : BinOp → IntKind → Int → Int → Option Int} {ct : ByteArray → ByteArray → Option ByteArray} {wr : IntKind → Int → Int} {bt : ByteArray → Int → Option Int} {bs : List (List T) → Option ByteArray} {us : ByteArray → Int → Int → Option ByteArray} {ur : List (List T) → Int → Int → Option (List (List T))} {ap : List (List T) → List (List T) → Option (List (List T))} {fl : List (List T) → Bool} {on : List (List T) → Bool} {mi : List (T × T) → T → Int} {mh : List (T × T) → T → Bool} {ms : List (T × T) → T → T → List (T × T)} {mo : KK → IntKind → List (T × T) → Bool} {mx : Int → Int → Int} {mn : Int → Int → Int}
variable (F : PF ar cm sc bc nt ng ln sz tn idx get set vw rep nf dv ct wr bt bs us ur ap fl on mi mh ms mo mx mn) {rw : RW} (q : @rw = @rows) {α : Type} [G α]
include F
theorem PF.maddw : addw = ar .add .i64 := by funext a b; exact (F.add _ _ _).symm
theorem PF.msubw : subw = ar .sub .i64 := by funext a b; exact (F.sub _ _ _).symm
theorem PF.mmulw : mulw = ar .mul .i64 := by funext a b; exact (F.mul _ _ _).symm
theorem PF.mnegw : negw = ng .i64 := by funext a; exact (F.ng _ _).symm
theorem PF.mlti : lti = cm .lss := by funext a b; exact (F.lss _ _).symm
theorem PF.mlei : lei = cm .leq := by funext a b; exact (F.leq _ _).symm
theorem PF.mgti : gti = cm .gtr := by funext a b; exact (F.gtr _ _).symm
theorem PF.mgei : gei = cm .geq := by funext a b; exact (F.geq _ _).symm
theorem PF.meqi : eqi = cm .eql := by funext a b; exact (F.eql _ _).symm
theorem PF.mnei : nei = cm .neq := by funext a b; exact (F.neq _ _).symm
theorem PF.meqs : eqs = sc .eql := by funext a b; rw [F.seql]; rfl
theorem PF.mnes : nes = sc .neq := by funext a b; rw [F.sneq]; rfl
theorem PF.mlts : lts = sc .lss := by funext a b; rw [F.slss]; rfl
theorem PF.meqb : eqb = bc .eql := by funext a b; rw [F.beql]; rfl
theorem PF.mneb : neb = bc .neq := by funext a b; rw [F.bneq]; rfl
theorem PF.mnotb : notb = nt := by funext a; rw [F.nt]; rfl
theorem PF.mslen : slen = sz := by funext a; rw [F.sz]; rfl
theorem PF.mmaxw : maxw = mx := by funext a b; exact (F.mx _ _).symm
theorem PF.mminw : minw = mn := by funext a b; exact (F.mn _ _).symm
theorem PF.xcat {a b c : ByteArray} (h : scat a b = some c) : ct a b = some c := by rw [F.ct]; exact h
theorem PF.xsnth {s : ByteArray} {i n : Int} (h : snth s i = some n) : bt s i = some n := by rw [F.bt]; exact h
theorem PF.xscut {s u : ByteArray} {i j : Int} (h : scut s i j = some u) : us s i j = some u := by rw [F.us]; exact h
theorem PF.xquo {a b c : Int} (h : quow a b = some c) : dv .quo .i64 a b = some c := by rw [F.quo]; exact h
theorem PF.xrem {a b c : Int} (h : remw a b = some c) : dv .rem .i64 a b = some c := by rw [F.rem]; exact h
theorem PF.rmi {pr : List (ByteArray × Int) → List (T × T)} (qm : pr = prs) : (∀ m k, mi (pr m) (.str k) = mget m k) ∧ (∀ m k, mh (pr m) (.str k) = mhas m k) ∧ (∀ m k v, ms (pr m) (.str k) (.int .i64 v) = pr (mset m k v)) ∧ (∀ m, mo .str .i64 (pr m) = true) ∧ pr [] = [] := by
  subst qm
  have e : ∀ m k, mapFind (prs m) (.str k) = if mhas m k then some (.int .i64 (mget m k)) else none := by
    intro m k
    induction m with
    | nil => rfl
    | cons p m ih =>
      simp only [prs, List.map_cons, mapFind, keyEq, mhas, mget]
      by_cases h : k = p.1
      · simp [h]
      · simp only [h, decide_false, Bool.false_eq_true, if_false]; exact ih
  have e0 : ∀ m k, mhas m k = false → mget m k = 0 := by
    intro m k
    induction m with
    | nil => intro _; rfl
    | cons p m ih =>
      simp only [mhas, mget]
      by_cases h : k = p.1
      · simp [h]
      · simp only [h, if_false]; exact ih
  refine ⟨fun m k => ?_, fun m k => ?_, fun m k v => ?_, fun m => ?_, rfl⟩
  · rw [F.mi]; unfold mapGet; rw [e]
    cases h : mhas m k with
    | true => rfl
    | false => simp [e0 m k h]
  · rw [F.mh]; unfold mapHas; rw [e]
    cases h : mhas m k <;> simp
  · rw [F.ms]
    induction m with
    | nil => rfl
    | cons p m ih =>
      simp only [prs, List.map_cons, mapSet, keyEq, mset]
      by_cases h : k = p.1
      · simp [h]
      · simp only [h, decide_false, Bool.false_eq_true, if_false, List.map_cons]
        congr 1
  · rw [F.mo]
    simp [mapOK, prs, KK.ok]
include q
theorem PF.mlen (l : List α) : len l = ln (rw false l) := by rw [F.ln, q, rows_length]; rfl
theorem PF.mleno (l : List α) : leno l = ln (rw true l) := by rw [F.ln, q, rows_length]; rfl
theorem PF.rnil (o : Bool) : rw o ([] : List α) = [] := by have _ := F; rw [q]; rfl
theorem PF.rvw (o : Bool) (l : List α) : vw (rw o l) = rw false l := by rw [F.vw, q]; exact rows_view o l
theorem PF.rnf (l : List α) : nf true (rw true l) = true := by rw [F.nf, q]; simp [rows_nofz]
theorem PF.rap {o : Bool} {l m n : List α} (h : app l m = some n) : ap (rw o l) (rw o m) = some (rw o n) := by
  unfold app at h
  split at h
  · rename_i h0
    cases h
    rw [F.ap, q, if_pos (by rw [rows_length, rows_length]; exact h0)]
    simp [rows]
  · cases h
theorem PF.rap0 {o : Bool} {m n : List α} (h : app [] m = some n) : ap [] (rw o m) = some (rw o n) := by
  have := F.rap q (o := o) h
  rwa [F.rnil q] at this
theorem PF.rcut {o : Bool} {l m : List α} {i j : Int} (h : cut l i j = some m) : ur (rw o l) i j = some (rw o m) := by
  unfold cut at h
  split at h
  · rename_i h0
    cases h
    rw [F.ur, q]
    unfold cutRows
    rw [if_pos (by rw [rows_length]; exact h0)]
    simp [rows, List.map_drop, List.map_take]
  · cases h
theorem PF.rix {o : Bool} {l : List α} {i : Int} {x : α} (h : nth l i = some x) : idx (rw o l) i = some (G.cells o x) ∧ get (rw o l) (tn i) = some (G.cells o x) := by
  unfold nth at h
  split at h
  · rename_i h0
    rw [F.idx, F.get, F.tn, q, if_pos h0, rows_get, h]
    exact ⟨rfl, rfl⟩
  · cases h
theorem PF.rset {o : Bool} {l m : List α} {i : Int} {x : α} (h : setn l i x = some m) : set (rw o l) (tn i) (G.cells o x) = rw o m := by
  unfold setn at h
  split at h
  · cases h
    rw [F.set, F.tn, q]
    simp only [rows, List.map_set]
  · cases h
theorem PF.rpush {o : Bool} {l m : List α} {x : α} (h : push l x = some m) : ap (rw o l) [G.cells o x] = some (rw o m) := by
  unfold push at h
  split at h
  · rename_i h0
    cases h
    rw [F.ap, q, if_pos (by rw [rows_length]; exact h0)]
    simp [rows]
  · cases h
theorem PF.rmk {o : Bool} {l : List α} {n : Int} {x : α} (h : mkl n x = some l) : rep n n (G.cells o x) = some (rw o l) := by
  unfold mkl at h
  split at h
  · rename_i h0
    cases h
    rw [F.rep, q, if_pos ⟨h0.1, rfl, h0.2⟩]
    simp [rows]
  · cases h
end
end Vx

