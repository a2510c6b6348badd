import Derived.Test.YtjfpbaknhaikmaaV2
namespace Vx
open Go

/-! ## Reading the state -/
inductive Loc where
  | slot (n : Nat)
  | cell (k c : Nat)
  | kind (k : Nat)
  | mp (k : Nat)
  deriving DecidableEq
inductive Rd (α : Type) where
  | ret (a : α)
  | slot (n : Nat) (f : SV → Bool → (Nat → Bool) → Rd α)
  | cell (k c : Nat) (f : C → Bool → Rd α)
  | kind (k : Nat) (f : Option Kind → Rd α)
  | mp (k : Nat) (f : Option (List (T × T)) → Rd α)

def Rd.run {α : Type} (σ : Sg) : Rd α → α
  | .ret a => a
  | .slot n f => (f (σ.slot n) (σ.isnew n) (σ.dirty (σ.rt n))).run σ
  | .cell k c f => (f (σ.cell k c) (σ.dirty (.obj k) c)).run σ
  | .kind k f => (f (σ.kind k)).run σ
  | .mp k f => (f (σ.mp k)).run σ
def Rd.log {α : Type} (σ : Sg) : Rd α → List Loc
  | .ret _ => []
  | .slot n f => .slot n :: (f (σ.slot n) (σ.isnew n) (σ.dirty (σ.rt n))).log σ
  | .cell k c f => .cell k c :: (f (σ.cell k c) (σ.dirty (.obj k) c)).log σ
  | .kind k f => .kind k :: (f (σ.kind k)).log σ
  | .mp k f => .mp k :: (f (σ.mp k)).log σ

inductive Upd where
  | slot (n : Nat) (x : SV)          -- written anew
  | hole (r : Root) (c : Nat)        -- its content has moved away
  | set (r : Root) (c : Nat) (t : T) -- other content for a place
  | dirtS (n c : Nat)
  | cell (k c : Nat) (x : C)
  | dirtC (k c : Nat)
  | box (k : Nat) (row : List C)
  | mp (k : Nat) (es : List (T × T))

/-- The cells of a slot's value; those of a tuple's parts from 64, 128, .. on. -/
def SV.cellAt : SV → Nat → Option C
  | .c x, j => if j = 0 then some x else none
  | .agg row, j => row[j]?
  | .tup l, j => match l[j / 64 - 1]? with
    | some (.c x) => if j % 64 = 0 ∧ 64 ≤ j then some x else none
    | some (.agg row) => if 64 ≤ j then row[j % 64]? else none
    | _ => none
def SV.setAt : SV → Nat → C → SV
  | .c _, _, x => .c x
  | .agg row, j, x => .agg (row.set j x)
  | .tup l, j, x => match l[j / 64 - 1]? with
    | some (.c _) => .tup (l.set (j / 64 - 1) (.c x))
    | some (.agg row) => .tup (l.set (j / 64 - 1) (.agg (row.set (j % 64) x)))
    | _ => .tup l

def rootLoc : Root → Nat → List Loc
  | .slot n, _ | .new n, _ => [.slot n]
  | .obj k, c => [.cell k c]
  | .ret, _ => []
def Upd.locs : Upd → List Loc
  | .slot n _ | .dirtS n _ => [.slot n]
  | .hole r c | .set r c _ => rootLoc r c
  | .cell k c _ | .dirtC k c => [.cell k c]
  | .box k _ => [.kind k]
  | .mp k _ => [.mp k]

/-- What else its effect depends on. -/
def rootDep : Root → List Loc
  | .obj k => [.kind k]
  | _ => []
def Upd.deps : Upd → List Loc
  | .hole r _ | .set r _ _ => rootDep r
  | .cell k _ _ => [.kind k]
  | _ => []
/-- Who writes `w` writes `l`. -/
def Loc.covers (w l : Loc) : Bool := w == l || match w, l with | .kind k, .cell j _ => k == j | _, _ => false
def inrK : Option Kind → Nat → Bool
  | some (.box m), c => decide (c < m)
  | some .virt, c => c == 0
  | none, _ => false
def Sg.inr (σ : Sg) (k c : Nat) : Bool := inrK (σ.kind k) c
def Sg.setP (σ : Sg) (r : Root) (c : Nat) (x : C) : Sg :=
  match r with
  | .slot n | .new n => { σ with slot := fun m => if m = n then (σ.slot n).setAt c x else σ.slot m }
  | .obj k => { σ with cell := fun i j => if i = k ∧ j = c ∧ σ.inr k c = true then x else σ.cell i j }
  | .ret => σ
def Sg.upd (σ : Sg) : Upd → Sg
  | .slot n x => { σ with slot := fun m => if m = n then x else σ.slot m, isnew := fun m => if m = n then true else σ.isnew m }
  | .hole r c => σ.setP r c (.t .top)
  | .set r c t => σ.setP r c (.t t)
  | .dirtS n c => { σ with dirty := fun r j => if r = σ.rt n ∧ j = c then true else σ.dirty r j }
  | .cell k c x => σ.setP (.obj k) c x
  | .dirtC k c => { σ with dirty := fun r j => if r = .obj k ∧ j = c then true else σ.dirty r j }
  | .box k row => { σ with kind := fun i => if i = k then some (.box row.length) else σ.kind i, cell := fun i j => if i = k then row.getD j (.t .top) else σ.cell i j }
  | .mp k es => { σ with mp := fun i => if i = k then some es else σ.mp i }
def Sg.upds (σ : Sg) (us : List Upd) : Sg := us.foldl Sg.upd σ

structure Eff where
  ok : Prop
  upd : List Upd
def fail : Rd Eff := .ret ⟨False, []⟩

/-! ## Types -/
inductive TK where
  | str
  | bool
  | other
structure TI where
  kd : TK
  agg : Bool
  size : Nat
  bytes : Nat
  zero : List T
  fld : List (Nat × Nat)     -- offset and size of each field
  elem : Option TypeId

def T.ofV : Value → T
  | .int k n => .int k n
  | .bool b => .bool b
  | .string s => .str s
  | .slice none 0 0 => .nil
  | v => .val v
def SV.ofV : Value → SV
  | .agg cs => .agg (cs.toList.map fun v => .t (T.ofV v))
  | v => .c (.t (T.ofV v))
def smallC : Value → Bool
  | .string s => decide (s.size ≤ 65536)
  | _ => true
def tinfo (P : Program) (t : TypeId) : Option TI :=
  match P.info? t, P.underlying t with
  | some i, some d => some {
      kd := match d with | .string => .str | .bool => .bool | _ => .other
      agg := match d with | .struct _ => true | .array .. => true | _ => false
      size := i.size
      bytes := i.bytes
      zero := match i.zero with | some v => if v.cells.all smallC then v.cells.toList.map T.ofV else [] | none => []
      fld := match d with | .struct fs => fs.toList.map (fun f => (f.offset, match P.info? f.type with | some i => i.size | none => 0)) | _ => []
      elem := match d with | .slice e => some e | _ => none }
  | _, _ => none

/-! ## Helpers -/
def C.alias (a : CA) : C → C
  | .t (.sl true _ _) => .ref a
  | x => x
def aliasFrom (r : Root) : Nat → List C → List C
  | _, [] => []
  | j, x :: l => x.alias ⟨r, j, []⟩ :: aliasFrom r (j + 1) l
def SV.alias1 (r : Root) (n : Nat) : SV → SV
  | .c x => .c (x.alias ⟨r, n, []⟩)
  | .agg row => .agg (aliasFrom r n row)
  | s => s
def aliasTup (r : Root) : Nat → List SV → List SV
  | _, [] => []
  | n, x :: l => x.alias1 r n :: aliasTup r (n + 64) l
def SV.alias (r : Root) : SV → SV
  | .tup l => .tup (aliasTup r 64 l)
  | x => x.alias1 r 0
def SV.hasOwn : SV → Bool
  | .c x => x.isOwn
  | .agg row => row.any C.isOwn
  | .tup _ => true


/-- The content of a place. -/
def place (r : Root) (c : Nat) (f : T → Rd Eff) : Rd Eff :=
  match r with
  | .slot n => .slot n fun sv nw d => if nw || d c then fail else match sv.cellAt c with | some (.t t) => f t | _ => fail
  | .new n => .slot n fun sv nw d => if !nw || d c then fail else match sv.cellAt c with | some (.t t) => f t | _ => fail
  | .obj k => .kind k fun kd => if inrK kd c then .cell k c fun x d => if d then fail else match x with | .t t => f t | _ => fail else fail
  | .ret => fail
def deref (a : CA) (f : T → T → Rd Eff) : Rd Eff :=
  place a.root a.c fun t => match t.at a.path with | some x => f t x | none => fail

def rdS (x : Operand) (f : SV → Rd Eff) : Rd Eff :=
  match x with
  | .tmp n => .slot n fun sv nw _ => f (sv.alias (rt n nw))
  | .const v => f (SV.ofV v)
  | .func g => f (.c (.clo g []))
  | .global _ => fail
def rdT (x : Operand) (f : T → Rd Eff) : Rd Eff := rdS x fun sv => match sv with | .c (.t t) => f t | _ => fail

def T.isOwn : T → Bool
  | .sl true _ _ => true
  | _ => false

/-- What is owned by a slot that was written in this region moves on; the rest stays as it is. -/
def moveC (x : C) (f : C → List Upd → Rd Eff) : Rd Eff :=
  match x with
  | .ref ⟨.new m, c, []⟩ => place (.new m) c fun t => if t.isOwn then f (.t t) [.hole (.new m) c] else fail
  | x => f x []
def moveL : List C → (List C → List Upd → Rd Eff) → Rd Eff
  | [], f => f [] []
  | x :: l, f => moveC x fun y us => moveL l fun ys vs => f (y :: ys) (us ++ vs)
def SV.row : SV → Option (List C)
  | .c x => some [x]
  | .agg row => some row
  | .tup _ => none
def C.one : C → Bool
  | .t .top => false
  | .t (.val v) => v.oneCell'
  | _ => true
def T.one : T → Bool
  | .top => false
  | .val v => v.oneCell'
  | _ => true
/-- The cells of an operand. -/
def rdRow (x : Operand) (f : List C → Rd Eff) : Rd Eff :=
  rdS x fun sv => match sv with
    | .c y => if y.one then f [y] else fail
    | .agg row => f row
    | .tup _ => fail
/-- The cells of an operand, moved. -/
def moveS (x : Operand) (f : List C → List Upd → Rd Eff) : Rd Eff := rdRow x fun row => moveL row f
/-- A cell's content becomes a datum: what a reference to a whole place names moves, a part of a slice is frozen. -/
def takeC (x : C) (f : T → List Upd → Rd Eff) : Rd Eff :=
  match x with
  | .t t => f t []
  | .ref ⟨r, c, []⟩ => place r c fun t => if t.isOwn then f t [.hole r c] else fail
  | _ => fail
def takeL : List C → (List T → List Upd → Rd Eff) → Rd Eff
  | [], f => f [] []
  | x :: l, f => takeC x fun t us => takeL l fun ts vs => f (t :: ts) (us ++ vs)
/-- The data of an operand, moved out of it. -/
def takeS (x : Operand) (f : List T → List Upd → Rd Eff) : Rd Eff := rdRow x fun row => takeL row f

inductive Key where
  | slot (n : Nat)
  | place (r : Root) (c : Nat)
  | kind (k : Nat)
  | mp (k : Nat)
  deriving DecidableEq
def Upd.key : Upd → List Key
  | .slot n _ => [.slot n]
  | .hole r c | .set r c _ => [.place r c]
  | .cell k c _ => [.place (.obj k) c]
  | .box k _ => [.kind k]
  | .mp k _ => [.mp k]
  | .dirtS .. | .dirtC .. => []
def keysOf : List Upd → List Key
  | [] => []
  | u :: us => u.key ++ keysOf us
def distinct : List Key → Bool
  | [] => true
  | x :: l => !l.contains x && distinct l
def finish (ok : Prop) (us : List Upd) : Rd Eff := if distinct (keysOf us) then .ret ⟨ok, us⟩ else fail
def put (o : Oper) (x : SV) (us : List Upd) (ok : Prop) : Rd Eff :=
  match o.dst with
  | some d => .slot d fun _ nw _ => if nw then fail else finish ok (us ++ [.slot d x])
  | none => finish ok us

def LIM : Nat := 2 ^ 38

def isStrT (P : Program) (t : TypeId) : Bool := match tinfo P t with | some { kd := .str, .. } => true | _ => false
def isBoolT (P : Program) (t : TypeId) : Bool := match tinfo P t with | some { kd := .bool, .. } => true | _ => false
def isSlT (P : Program) (t : TypeId) : Bool := match tinfo P t with | some { elem := some _, .. } => true | _ => false
def binT (P : Program) (xt : TypeId) (op : BinOp) (x y : T) : Option T :=
  match op, x, y with
  | .add, .int k a, .int j b => if k = j then some (.int k (k.wrap (a + b))) else none
  | .sub, .int k a, .int j b => if k = j then some (.int k (k.wrap (a - b))) else none
  | .mul, .int k a, .int j b => if k = j then some (.int k (k.wrap (a * b))) else none
  | .eql, .int k a, .int j b => if k = j then some (.bool (decide (a = b))) else none
  | .neq, .int k a, .int j b => if k = j then some (.bool (decide (a ≠ b))) else none
  | .lss, .int k a, .int j b => if k = j then some (.bool (decide (a < b))) else none
  | .leq, .int k a, .int j b => if k = j then some (.bool (decide (a ≤ b))) else none
  | .gtr, .int k a, .int j b => if k = j then some (.bool (decide (b < a))) else none
  | .geq, .int k a, .int j b => if k = j then some (.bool (decide (b ≤ a))) else none
  | .eql, .str a, .str b => some (.bool (decide (a = b)))
  | .neq, .str a, .str b => some (.bool (decide (a ≠ b)))
  | .eql, .bool a, .bool b => if isBoolT P xt then some (.bool (a == b)) else none
  | .neq, .bool a, .bool b => if isBoolT P xt then some (.bool (a != b)) else none
  | _, _, _ => none

def readCells (k : Nat) : Nat → Nat → (List C → Rd Eff) → Rd Eff
  | _, 0, f => f []
  | c, n + 1, f => .cell k c fun x _ => readCells k (c + 1) n fun l => f (x.alias ⟨.obj k, c, []⟩ :: l)
def atCells (t : T) (h : Hop) (p : List Hop) : Nat → Option (List T)
  | 0 => some []
  | n + 1 => (t.at (h :: p)).bind fun x => (atCells t { h with c := h.c + 1 } p n).map (x :: ·)
def putCells (t : T) (h : Hop) (p : List Hop) : List T → T
  | [] => t
  | x :: l => putCells (t.put (h :: p) x) { h with c := h.c + 1 } p l
def aliasHop (a : CA) (h : Hop) : List T → List C
  | [] => []
  | x :: l => (C.t x).alias { a with path := h :: a.path } :: aliasHop a { h with c := h.c + 1 } l

/-! ## One operation -/
def stepLoad (P : Program) (o : Oper) (t : TypeId) (p : Operand) : Rd Eff :=
  match tinfo P t with
  | none => fail
  | some i => rdS p fun sv => match sv with
    | .c (.fp row c) =>
      if i.agg then put o (.agg (((row.drop c).take i.size).map C.t)) [] (c + i.size ≤ row.length)
      else match row[c]? with | some x => put o (.c (.t x)) [] (i.size = 1) | none => fail
    | .c (.ptr ⟨.obj k, c, []⟩) => .kind k fun kd => match kd with
      | some (.box m) =>
        if i.agg then readCells k c i.size fun l => put o (.agg l) [] (c + i.size ≤ m)
        else .cell k c fun x _ => put o (.c (x.alias ⟨.obj k, c, []⟩)) [] (c < m ∧ i.size = 1)
      | _ => fail
    | .c (.ptr ⟨r, c, h :: q⟩) => place r c fun t =>
      if i.agg then match atCells t h q i.size with
        | some l => put o (.agg (aliasHop ⟨r, c, q⟩ h l)) [] True
        | none => fail
      else match t.at (h :: q) with
        | some x => put o (.c ((C.t x).alias ⟨r, c, h :: q⟩)) [] (i.size = 1)
        | none => fail
    | _ => fail

def storeCells' (k : Nat) : Nat → List C → List Upd
  | _, [] => []
  | c, x :: l => .cell k c x :: ((if x.isOwn then [.dirtC k c] else []) ++ storeCells' k (c + 1) l)
def dirtP : Root → Nat → List Upd
  | .slot n, c | .new n, c => [.dirtS n c]
  | .obj k, c => [.dirtC k c]
  | .ret, _ => []
abbrev undefS : SV := .c (.t (.val undef))
def stepStore (P : Program) (o : Oper) (t : TypeId) (p v : Operand) : Rd Eff :=
  match tinfo P t with
  | none => fail
  | some i => rdS p fun sv => match sv with
    | .c (.ptr ⟨.obj k, c, []⟩) => .kind k fun kd => match kd with
      | some (.box m) => moveS v fun row us => put o undefS (us ++ storeCells' k c row) (row.length = i.size ∧ c + i.size ≤ m ∧ row.all C.one = true)
      | _ => fail
    | .c (.ptr ⟨r, c, h :: q⟩) => takeS v fun ts us => place r c fun t => match atCells t h q ts.length with
        | some _ => put o undefS (us ++ [.set r c (putCells t h q ts)] ++ (if ts.any T.isOwn then dirtP r c else [])) (ts.length = i.size ∧ 0 < i.size ∧ ts.all T.one = true)
        | none => fail
    | _ => fail

def takeParts : List (Nat × Operand) → (List (Nat × List T) → List Upd → Rd Eff) → Rd Eff
  | [], f => f [] []
  | (i, x) :: r, f => takeS x fun ts us => takeParts r fun ps vs => f ((i, ts) :: ps) (us ++ vs)
def rdParts : List (Nat × Operand) → (List (Nat × List C) → Rd Eff) → Rd Eff
  | [], f => f []
  | (i, x) :: r, f => rdRow x fun row => rdParts r fun ps => f ((i, row) :: ps)
def buildRow (fld : List (Nat × Nat)) (row : List C) : List (Nat × List C) → Option (List C)
  | [] => some row
  | (i, xs) :: r => match fld[i]? with
    | some (off, n) => if xs.length = n ∧ 0 < n ∧ off + n ≤ row.length then buildRow fld (row.take off ++ xs ++ row.drop (off + xs.length)) r else none
    | none => none
def denseRows (sz : Nat) : Nat → List (Nat × List T) → Option (List (List T))
  | _, [] => some []
  | k, (i, ts) :: r => if i = k ∧ ts.length = sz then (denseRows sz (k + 1) r).map (ts :: ·) else none

def stepAppend (P : Program) (o : Oper) (sT : TypeId) (x y : Operand) : Rd Eff :=
  match tinfo P sT with
  | some { elem := some e, .. } => match tinfo P e with
    | some ei => rdS x fun sx => rdS y fun sy =>
      let fin (ys : List (List T)) (ok : Prop) (us : List Upd) : Rd Eff := match sx with
        | .c (.t .nil) => put o (.c (.t (.sl true ei.size ys))) us (ok ∧ ys.length ≤ LIM ∧ ei.bytes ≤ 256 ∧ ei.zero.length = ei.size)
        | .c (.ref a) => deref a fun t z => match z with
          | .sl true sz xs => if sz = ei.size then
              put o (.c (.t (.sl true ei.size (xs ++ ys)))) (us ++ [match a.path with | [] => .hole a.root a.c | p => .set a.root a.c (t.put p .top)]) (ok ∧ xs.length + ys.length ≤ LIM ∧ ei.bytes ≤ 256 ∧ ei.zero.length = ei.size)
            else fail
          | _ => fail
        | _ => fail
      match sy with
      | .c (.ref ⟨.new m, c, []⟩) => place (.new m) c fun t => match t with
        | .sl true sz ys => if sz = ei.size then fin ys (ys.all (·.all T.one) = true) [.hole (.new m) c] else fail
        | _ => fail
      | .c (.ref a) => deref a fun _ t => match t with
        | .sl true sz ys => if sz = ei.size then fin ys (ys.map (·.map T.view) = ys ∧ ys.all (·.all T.one) = true) [] else fail
        | _ => fail
      | .c (.t (.sl false sz ys)) => if sz = ei.size then fin ys (ys.all (·.all T.one) = true) [] else fail
      | .c (.t .nil) => fin [] True []
      | _ => fail
    | none => fail
  | _ => fail

def lenT (s : Bool) : T → Option Nat
  | .nil => if s then none else some 0
  | .sl _ _ xs => if s then none else some xs.length
  | .str b => if s then some b.size else none
  | _ => none
def stepLen (P : Program) (o : Oper) (t : TypeId) (x : Operand) : Rd Eff :=
  if isStrT P t || isSlT P t then rdS x fun sv => match sv with
    | .c (.t y) => match lenT (isStrT P t) y with | some n => put o (.c (.t (.int .i64 n))) [] True | none => fail
    | .c (.ref a) => deref a fun _ y => match y with | .sl true _ xs => if isStrT P t then fail else put o (.c (.t (.int .i64 xs.length))) [] True | _ => fail
    | _ => fail
  else fail
def stepIndex (P : Program) (o : Oper) (t : TypeId) (x i : Operand) : Rd Eff :=
  match tinfo P t with
  | some { elem := some e, .. } => match tinfo P e with
    | some ei => rdS x fun sv => rdT i fun ti => match ti with
      | .int _ i => match sv with
        | .c (.t (.sl false sz xs)) => if sz = ei.size then match xs[i.toNat]? with | some row => put o (.c (.fp row 0)) [] (0 ≤ i) | none => fail else fail
        | .c (.ref a) => deref a fun _ t => match t with
          | .sl true sz xs => if sz = ei.size then match xs[i.toNat]? with | some _ => put o (.c (.ptr ⟨a.root, a.c, ⟨i.toNat, sz, 0⟩ :: a.path⟩)) [] (0 ≤ i) | none => fail else fail
          | _ => fail
        | _ => fail
      | _ => fail
    | none => fail
  | _ => fail

def astep (P : Program) (o : Oper) : Rd Eff :=
  match o.op with
  | .move x => rdS x fun sv => put o sv [] (sv.row.isSome = true)
  | .assign x => rdS x fun sv => match sv with
    | .c x => moveL [x] fun l us => match l with | [y] => put o (.c y) us True | _ => fail
    | .agg row => moveL row fun l us => put o (.agg l) us True
    | .tup _ => fail
  | .nilCheck x => rdS x fun sv => match sv with
    | .c (.ptr ⟨r, c, []⟩) => put o (.c (.ptr ⟨r, c, []⟩)) [] True
    | .c (.ptr ⟨r, c, h :: q⟩) => place r c fun _ => put o (.c (.ptr ⟨r, c, h :: q⟩)) [] True
    | .c (.fp r c) => put o (.c (.fp r c)) [] True
    | _ => fail
  | .binOp op xt x y _ => rdT x fun a => rdT y fun b => match binT P xt op a b with | some t => put o (.c (.t t)) [] True | none => fail
  | .unOp .not _ x => rdT x fun a => match a with | .bool b => put o (.c (.t (.bool !b))) [] True | _ => fail
  | .unOp .neg _ x => rdT x fun a => match a with | .int k n => put o (.c (.t (.int k (k.wrap (-n))))) [] True | _ => fail
  | .fieldAddr s x f => match tinfo P s with
    | some i => match i.fld[f]? with
      | some (off, _ + 1) => rdS x fun sv => match sv with
        | .c (.fp row c) => put o (.c (.fp row (c + off))) [] True
        | .c (.ptr ⟨r, c, []⟩) => put o (.c (.ptr ⟨r, c + off, []⟩)) [] True
        | .c (.ptr ⟨r, c, h :: q⟩) => place r c fun _ => put o (.c (.ptr ⟨r, c, { h with c := h.c + off } :: q⟩)) [] True
        | _ => fail
      | _ => fail
    | none => fail
  | .indexAddr t x i => stepIndex P o t x i
  | .load t p => stepLoad P o t p
  | .store t p v => stepStore P o t p v
  | .alloc t => match o.dst, tinfo P t with
    | some d, some i => .kind (100000 + d) fun kd => .mp (100000 + d) fun m => match kd, m with
      | none, none => put o (.c (.ptr ⟨.obj (100000 + d), 0, []⟩)) [.box (100000 + d) (i.zero.map C.t)] (i.zero.length = i.size ∧ 0 < i.size)
      | _, _ => fail
    | _, _ => fail
  | .box t x => match o.dst, tinfo P t with
    | some d, some i => .kind (100000 + d) fun kd => .mp (100000 + d) fun m => match kd, m with
      | none, none => moveS x fun row us => put o (.c (.ptr ⟨.obj (100000 + d), 0, []⟩)) (us ++ [.box (100000 + d) row]) (i.size = row.length)
      | _, _ => fail
    | _, _ => fail
  | .build t parts => match tinfo P t with
    | some i => rdParts parts.toList fun ps => match buildRow i.fld (i.zero.map C.t) ps with
      | some row => put o (.agg row) [] (i.fld.isEmpty = false ∧ i.fld.all (fun p => decide (0 < p.2)) = true ∧ i.zero.length = i.size ∧ 0 < i.size)
      | none => fail
    | none => fail
  | .makeSlice t l c => match tinfo P t with
    | some { elem := some e, .. } => match tinfo P e with
      | some ei => rdT l fun a => rdT c fun b => match a, b with
        | .int _ n, .int _ m => put o (.c (.t (.sl true ei.size (List.replicate n.toNat ei.zero)))) [] (0 ≤ n ∧ n = m ∧ n ≤ (LIM : Nat) ∧ ei.bytes ≤ 256 ∧ 0 < ei.size ∧ ei.zero.length = ei.size)
        | _, _ => fail
      | none => fail
    | _ => fail
  | .extract x i => rdS x fun sv => match sv with
    | .tup l => match l[i]? with
      | some x => put o x [] (x.row.isSome = true)
      | none => fail
    | _ => fail
  | .call { callee := .builtin .len, args, argTypes } => match args.toList, argTypes.toList with | [x], [t] => stepLen P o t x | _, _ => fail
  | _ => fail

end Vx
