import Derived.Test.YtjfpbaknhaikmaaV3
namespace Vx
open Go

/-! ## Calls -/
/-- What is handed in by pointer: a box, an owned slice behind a header, a map. -/
inductive AR where
  | box (row : List C)
  | virt (x : T)
  | map (es : List (T × T))
  deriving Inhabited
/-- Where the caller has it. -/
inductive AS where
  | obj (k : Nat)
  | place (a : CA)
  | map (k : Nat)
  deriving Inhabited

def AS.isObj (k : Nat) : AS → Bool
  | .obj j => j = k
  | _ => false
def AS.isPlace (a : CA) : AS → Bool
  | .place b => b = a
  | _ => false
def AS.isMap (k : Nat) : AS → Bool
  | .map j => j = k
  | _ => false

/-- Is a part of the place `(r, c)` handed in? -/
def AS.touches (r : Root) (c : Nat) : AS → Bool
  | .obj k => r = .obj k
  | .place a => a.root = r ∧ a.c = c
  | .map _ => false
def AS.apart : AS → AS → Bool
  | .obj k, .obj j => k ≠ j
  | .obj k, .place a => a.root ≠ .obj k
  | .place a, .obj k => a.root ≠ .obj k
  | .place a, .place b => ¬ (a.root = b.root ∧ a.c = b.c)
  | .map k, .map j => k ≠ j
  | _, _ => true
def AS.allApart : List AS → Bool
  | [] => true
  | x :: l => l.all x.apart && allApart l
mutual
/-- A cell as the callee sees it; `cl`: nothing that is owned is lent for reading. -/
def passC (amb : List AS) (x : C) (f : C → Prop → Bool → Rd Eff) : Rd Eff :=
  match x with
  | .t y => f (.t y) (y.view = y) true
  | .ref a => match amb.findIdx? (AS.isPlace a) with
    | some j => f (.ref ⟨.obj j, 0, []⟩) True true
    | none => if amb.any (AS.touches a.root a.c) then fail else deref a fun _ y => if y.isOwn then f (.t y.view) True false else fail
  | .ptr ⟨.obj k, c, []⟩ => match amb.findIdx? (AS.isObj k) with
    | some j => f (.ptr ⟨.obj j, c, []⟩) True true
    | none => fail
  | .mp k => match amb.findIdx? (AS.isMap k) with
    | some j => f (.mp j) True true
    | none => fail
  | .clo g caps => passL amb caps fun l p cl => f (.clo g l) p cl
  | .fp row c => f (.fp row c) True true
  | _ => fail
def passL (amb : List AS) (l : List C) (f : List C → Prop → Bool → Rd Eff) : Rd Eff :=
  match l with
  | [] => f [] True true
  | x :: l => passC amb x fun y p c1 => passL amb l fun ys q c2 => f (y :: ys) (p ∧ q) (c1 && c2)
end
/-- The operands of a call as the callee sees them. -/
def passArgs (amb : List AS) : List Operand → (List SV → Prop → Bool → Rd Eff) → Rd Eff
  | [], f => f [] True true
  | x :: r, f =>
    let go (sv : SV) : Rd Eff := match sv with
      | .c y => passC amb y fun z p c1 => passArgs amb r fun l q c2 => f (.c z :: l) (p ∧ q) (c1 && c2)
      | .agg row => passL amb row fun zs p c1 => passArgs amb r fun l q c2 => f (.agg zs :: l) (p ∧ q) (c1 && c2)
      | .tup _ => fail
    rdS x go
def allT : List C → Option (List T)
  | [] => some []
  | .t x :: l => (allT l).map (x :: ·)
  | _ => none
def getRow (k : Nat) : Nat → Nat → (List T → Rd Eff) → Rd Eff
  | _, 0, f => f []
  | c, n + 1, f => .cell k c fun x _ => match x with
    | .t t => getRow k (c + 1) n fun l => f (t :: l)
    | _ => fail
def passAmb : List AS → (List AR → Rd Eff) → Rd Eff
  | [], f => f []
  | .obj k :: r, f => .kind k fun kd => match kd with
    | some (.box m) => getRow k 0 m fun l => passAmb r fun rs => f (.box (l.map C.t) :: rs)
    | _ => fail
  | .place a :: r, f => deref a fun _ y => if y.isOwn then passAmb r fun rs => f (.virt y :: rs) else fail
  | .map k :: r, f => .mp k fun o => match o with
    | some es => passAmb r fun rs => f (.map es :: rs)
    | none => fail
def cellUpds (k : Nat) : Nat → List T → List Upd
  | _, [] => []
  | c, t :: l => .cell k c (.t t) :: .dirtC k c :: cellUpds k (c + 1) l
def backAmb : List AS → List AR → (List Upd → Rd Eff) → Rd Eff
  | [], [], f => f []
  | .obj k :: r, .box row :: rs, f => .kind k fun kd => match kd, allT row with
    | some (.box m), some l => if l.length = m then backAmb r rs fun us => f (cellUpds k 0 l ++ us) else fail
    | _, _ => fail
  | .place a :: r, .virt y :: rs, f => place a.root a.c fun t => backAmb r rs fun vs => f (.set a.root a.c (t.put a.path y) :: vs)
  | .map k :: r, .map es :: rs, f => backAmb r rs fun us => f (.mp k es :: us)
  | _, _, _ => fail

def C.noFz : C → Bool
  | .t x => x.noFz
  | _ => false
def SV.noFz : SV → Bool
  | .c x => x.noFz
  | .agg row => row.all C.noFz
  | .tup l => l.all fun x => match x with | .c x => x.noFz | .agg row => row.all C.noFz | .tup _ => false
def AR.noFz : AR → Bool
  | .box row => row.all C.noFz
  | .virt x => x.noFz
  | .map _ => true

/-- What the callee is known to return. -/
abbrev Rel := Nat → List SV → List AR → SV → List AR → Prop

structure Ans where
  amb : List AS
  res : SV
  out : List AR
  deriving Inhabited

def stepCall (R : Rel) (o : Oper) (g : Nat) (args : List Operand) (an : Ans) : Rd Eff :=
  passArgs [] args fun fa p cl => put o an.res [] (R g fa [] an.res [] ∧ p ∧ (cl = true ∨ an.res.noFz = true))

/-! ## The state as a list -/
structure St where
  sl : List (Nat × SV)
  nw : List Nat
  ob : List (Nat × List C)
  vi : List (Nat × C)
  mp : List (Nat × List (T × T))
  di : List (Root × Nat)
def lk {α : Type} (n : Nat) : List (Nat × α) → Option α
  | [] => none
  | (m, x) :: l => if n = m then some x else lk n l
def seta {α : Type} (n : Nat) (x : α) : List (Nat × α) → List (Nat × α)
  | [] => [(n, x)]
  | (m, y) :: l => if n = m then (n, x) :: l else (m, y) :: seta n x l
def St.slot (s : St) (n : Nat) : SV := (lk n s.sl).getD (.c (.t .top))
def St.isnew (s : St) (n : Nat) : Bool := s.nw.contains n
def St.cell (s : St) (k c : Nat) : C := match lk k s.ob with
  | some row => row.getD c (.t .top)
  | none => match lk k s.vi with | some x => if c = 0 then x else .t .top | none => .t .top
def St.kind (s : St) (k : Nat) : Option Kind := match lk k s.ob with
  | some row => some (.box row.length)
  | none => match lk k s.vi with | some _ => some .virt | none => none
def St.map (s : St) (k : Nat) : Option (List (T × T)) := lk k s.mp
def St.dirty (s : St) (r : Root) (c : Nat) : Bool := s.di.contains (r, c)
def St.sg (s : St) : Sg := ⟨s.slot, s.isnew, s.cell, s.kind, s.map, s.dirty⟩
def St.setP (s : St) (r : Root) (c : Nat) (x : C) : St :=
  match r with
  | .slot n | .new n => { s with sl := seta n ((s.slot n).setAt c x) s.sl }
  | .obj k => match lk k s.ob with
    | some row => { s with ob := seta k (row.set c x) s.ob }
    | none => if c = 0 ∧ (lk k s.vi).isSome = true then { s with vi := seta k x s.vi } else s
  | .ret => s
def St.upd (s : St) : Upd → St
  | .slot n x => { s with sl := seta n x s.sl, nw := n :: s.nw }
  | .hole r c => s.setP r c (.t .top)
  | .set r c t => s.setP r c (.t t)
  | .dirtS n c => { s with di := (rt n (s.isnew n), c) :: s.di }
  | .cell k c x => s.setP (.obj k) c x
  | .dirtC k c => { s with di := (.obj k, c) :: s.di }
  | .box k row => { s with ob := seta k row s.ob }
  | .mp k es => { s with mp := seta k es s.mp }
def St.upds : St → List Upd → St
  | s, [] => s
  | s, u :: us => (s.upd u).upds us

def Rd.go {α : Type} (s : St) : Rd α → List Loc → (α → List Loc → Prop) → Prop
  | .ret a, lg, K => K a lg
  | .slot n f, lg, K => (f (s.slot n) (s.isnew n) (s.dirty (rt n (s.isnew n)))).go s (.slot n :: lg) K
  | .cell k c f, lg, K => (f (s.cell k c) (s.dirty (.obj k) c)).go s (.cell k c :: lg) K
  | .kind k f, lg, K => (f (s.kind k)).go s (.kind k :: lg) K
  | .mp k f, lg, K => (f (s.map k)).go s (.mp k :: lg) K

abbrev Kont := St → List (List Loc × List Loc) → Prop
def wlocs : List Upd → List Loc
  | [] => []
  | u :: us => u.locs ++ wlocs us
def dlocs : List Upd → List Loc
  | [] => []
  | u :: us => u.deps ++ dlocs us

def fin (s : St) (l : List (List Loc × List Loc)) (K : Kont) (e : Eff) (lg : List Loc) : Prop := e.ok ∧ K (s.upds e.upd) ((dlocs e.upd ++ lg, wlocs e.upd) :: l)
def skipOp (o : Oper) : Rd Eff := put o undefS [] True
/-- One operation. -/
def aop1 (P : Program) (R : Rel) (o : Oper) (s : St) (lg : List Loc) (l : List (List Loc × List Loc)) (K : Kont) : Prop :=
  match o.op with
  | .pick (.tmp c) a b => match s.slot c with
    | .c (.t (.bool t)) => (t = true → (rdS a fun sv => put o sv [] (sv.row.isSome = true)).go s (.slot c :: lg) (fin s l K)) ∧ (t = false → (rdS b fun sv => put o sv [] (sv.row.isSome = true)).go s (.slot c :: lg) (fin s l K))
    | _ => False
  | .call { callee := .value (.func g), args, .. } => ∃ an, (stepCall R o g args.toList an).go s lg (fin s l K)
  | _ => (astep P o).go s lg (fin s l K)
def aop (P : Program) (R : Rel) (ops : List Oper) (o : Oper) (s : St) (l : List (List Loc × List Loc)) (K : Kont) : Prop :=
  match o.guard with
  | none => aop1 P R o s [] l K
  | some (j, want) => match (ops[j]?).bind (·.dst) with
    | some d => match s.slot d with
      | .c (.t (.bool b)) => (b = want → aop1 P R o s [.slot d] l K) ∧ (b = !want → (skipOp o).go s [.slot d] (fin s l K))
      | .c (.t (.val (.tuple _))) => (skipOp o).go s [.slot d] (fin s l K)
      | _ => False
    | none => False
def aops (P : Program) (R : Rel) (ops : List Oper) : List Oper → St → List (List Loc × List Loc) → Kont → Prop
  | [], s, l, K => K s l
  | o :: r, s, l, K => aop P R ops o s l fun s l => aops P R ops r s l K

/-! ## The end of a region -/
def isNewOf (nw : List Nat) : Root → Bool
  | .slot n => nw.contains n
  | _ => false
/-- New keys, from 100000 on, become old ones, from 1000 on. `nb`: the keys that they take. -/
def movedK (nb : List Nat) (k : Nat) : Bool := decide (100000 ≤ k) && nb.contains (k - 99000)
def keyK (nb : List Nat) (k : Nat) : Nat := if movedK nb k then k - 99000 else k
def deadK (nb : List Nat) (k : Nat) : Bool := nb.contains k && !movedK nb k
def deadR (nb : List Nat) : Root → Bool
  | .obj k => deadK nb k
  | _ => false
def fixR (nb : List Nat) : Root → Root
  | .new n => .slot n
  | .obj k => .obj (keyK nb k)
  | r => r
def fixA (nb : List Nat) (a : CA) : CA := { a with root := fixR nb a.root }
def okCap (nb : List Nat) : C → Bool
  | .t _ => true
  | .ptr ⟨.obj k, _, []⟩ => !deadK nb k
  | _ => false
def fixCap (nb : List Nat) : C → C
  | .ptr a => .ptr (fixA nb a)
  | x => x
/-- References that lie are dropped, new roots become old ones. -/
def fixC (nw : List Nat) (nb : List Nat) (di : List (Root × Nat)) : C → C
  | .t x => .t x
  | .ref a => if isNewOf nw a.root || di.contains (a.root, a.c) || deadR nb a.root then .t .top else .ref (fixA nb a)
  | .ptr a => if isNewOf nw a.root || (!a.path.isEmpty && di.contains (a.root, a.c)) || deadR nb a.root then .t .top else .ptr (fixA nb a)
  | .fp r c => .fp r c
  | .clo f caps => if caps.all (okCap nb) then .clo f (caps.map (fixCap nb)) else .t .top
  | .mp k => if deadK nb k then .t .top else .mp (keyK nb k)
def fixSV1 (nw nb : List Nat) (di : List (Root × Nat)) : SV → SV
  | .c x => .c (fixC nw nb di x)
  | .agg row => .agg (row.map (fixC nw nb di))
  | .tup _ => .c (.t .top)
def fixSV (nw nb : List Nat) (di : List (Root × Nat)) : SV → SV
  | .tup l => .tup (l.map (fixSV1 nw nb di))
  | x => fixSV1 nw nb di x
def newKeys {α : Type} : List (Nat × α) → List Nat
  | [] => []
  | (k, _) :: l => if 100000 ≤ k then (k - 99000) :: newKeys l else newKeys l
def fixSl (keep nw nb : List Nat) (di : List (Root × Nat)) : List (Nat × SV) → List (Nat × SV)
  | [] => []
  | (n, x) :: l => if keep.contains n then (n, fixSV nw nb di x) :: fixSl keep nw nb di l else fixSl keep nw nb di l
def fixOb (nw nb : List Nat) (di : List (Root × Nat)) : List (Nat × List C) → List (Nat × List C)
  | [] => []
  | (k, row) :: l => if deadK nb k then fixOb nw nb di l else (keyK nb k, row.map (fixC nw nb di)) :: fixOb nw nb di l
def fixVi (nw nb : List Nat) (di : List (Root × Nat)) : List (Nat × C) → List (Nat × C)
  | [] => []
  | (k, x) :: l => if nb.contains k || movedK nb k then fixVi nw nb di l else (k, fixC nw nb di x) :: fixVi nw nb di l
def fixMp (nb : List Nat) : List (Nat × List (T × T)) → List (Nat × List (T × T))
  | [] => []
  | (k, es) :: l => if deadK nb k then fixMp nb l else (keyK nb k, es) :: fixMp nb l
def St.fix (s : St) (keep : List Nat) : St :=
  let nb := newKeys s.ob ++ newKeys s.mp
  { sl := fixSl keep s.nw nb s.di s.sl, nw := [], ob := fixOb s.nw nb s.di s.ob, vi := fixVi s.nw nb s.di s.vi, mp := fixMp nb s.mp, di := [] }

/-! ## Orders -/
def afterB (ops : List Oper) : Nat → Nat → Nat → Bool
  | 0, _, _ => false
  | f + 1, j, i => match ops[j]? with
    | some o => o.after.toList.any fun e => Region.binds .any e && (e.on == i || afterB ops f e.on i)
    | none => false
def meets (a b : List Loc) : Bool := a.any fun w => b.any fun l => w.covers l
def indepFrom (ops : List Oper) (j : Nat) (x : List Loc × List Loc) : Nat → List (List Loc × List Loc) → Bool
  | _, [] => true
  | i, y :: l => (!(meets y.2 x.1 || meets y.2 x.2 || meets x.2 y.2 || meets x.2 y.1) || afterB ops ops.length j i) && indepFrom ops j x (i - 1) l
/-- `l` is the log, the last operation first. -/
def indepAll (ops : List Oper) : List (List Loc × List Loc) → Bool
  | [] => true
  | x :: l => indepFrom ops l.length x (l.length - 1) l && indepAll ops l
def edgesDown : Nat → List Oper → Bool
  | _, [] => true
  | i, o :: r => o.after.toList.all (fun e => !Region.binds .any e || decide (e.on < i)) && edgesDown (i + 1) r
def indep (ops : List Oper) (l : List (List Loc × List Loc)) : Bool := edgesDown 0 ops && indepAll ops l

/-! ## Code -/
inductive AX where
  | normal
  | exit (id : Nat)
  | ret
def onlyOb (ol : List Nat) : List (Nat × List C) → List (Nat × List C)
  | [] => []
  | (k, row) :: l => if ol.contains k || decide (100000 ≤ k) then (k, row) :: onlyOb ol l else onlyOb ol l
def onlyVi (ob : List (Nat × List C)) : List (Nat × C) → List (Nat × C)
  | [] => []
  | (k, x) :: l => if (lk k ob).isNone then (k, x) :: onlyVi ob l else onlyVi ob l
def onlySl (s : St) : List Nat → List (Nat × SV)
  | [] => []
  | n :: l => (n, s.slot n) :: onlySl s l
/-- The state cut down to the slots `kl`, in this order, and the boxes `ol`. -/
def St.only (s : St) (kl ol : List Nat) : St := { s with sl := onlySl s kl, ob := onlyOb ol s.ob, vi := onlyVi s.ob s.vi }
/-- A loop: what holds at each round's head, and a measure. -/
def aloop (body : (AX → St → Prop) → St → Prop) (Q : AX → St → Prop) (s : St) : Prop :=
  ∃ (kl ol : List Nat) (I : Nat → St → Prop), (∃ n, I n (s.only kl ol)) ∧ ∀ n s, I n s → body (fun e s2 => match e with | .normal => ∃ m, m < n ∧ I m (s2.only kl ol) | e => Q e s2) s
def awp (P : Program) (R : Rel) (keep : List Nat) : Code → (AX → St → Prop) → St → Prop
  | .skip, Q, s => Q .normal s
  | .region _ ops draw, Q, s => aops P R ops.toList ops.toList s [] fun s l => (draw = true → indep ops.toList l = true) ∧ Q .normal (s.fix keep)
  | .seq a b, Q, s => awp P R keep a (fun e s => match e with | .normal => awp P R keep b Q s | e => Q e s) s
  | .cond (.tmp c) x y, Q, s => match s.slot c with
    | .c (.t (.bool t)) => (t = true → awp P R keep x Q s) ∧ (t = false → awp P R keep y Q s)
    | _ => False
  | .cond (.const (.bool t)) x y, Q, s => (t = true → awp P R keep x Q s) ∧ (t = false → awp P R keep y Q s)
  | .block id c, Q, s => awp P R keep c (fun e s => match e with | .exit j => if j = id then Q .normal s else Q (.exit j) s | e => Q e s) s
  | .loop c, Q, s => aloop (awp P R keep c) Q s
  | .exit id, Q, s => Q (.exit id) s
  | .ret, Q, s => Q .ret s
  | _, _, _ => False
end Vx
