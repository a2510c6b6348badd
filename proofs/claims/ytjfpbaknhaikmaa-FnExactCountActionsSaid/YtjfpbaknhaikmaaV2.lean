import Derived.Test.YtjfpbaknhaikmaaV1
namespace Vx
open Go

/-- What a cell of a box, or a slot, holds. -/
inductive C where
  | t (x : T)
  | ref (a : CA)
  | ptr (a : CA)
  | fp (row : List T) (c : Nat)
  | clo (f : Nat) (caps : List C)
  | mp (k : Nat)
  deriving Inhabited
inductive SV where
  | c (x : C)
  | agg (row : List C)
  | tup (vs : List SV)
  deriving Inhabited
def C.isOwn : C → Bool
  | .t (.sl true _ _) => true
  | _ => false
abbrev Dirt := Root → Nat → Bool

/-- The value behind a pointer's abstract address. -/
def PRep (g : Gh) (p : CA) (v : Value) : Prop :=
  match p.path with
  | [] => ∃ k, p.root = .obj k ∧ v = .pointer (some ⟨(g.bl k).1, (g.bl k).2.1 + p.c, none⟩)
  | h :: q => ∃ b off n cap, g.hd { p with path := q } = .slice (some ⟨b, off, none⟩) n cap ∧ v = .pointer (some ⟨b, off + h.i * h.sz + h.c, none⟩)

mutual
def C.roots : C → List Root
  | .t _ => []
  | .ref a => [a.root]
  | .ptr a => [a.root]
  | .fp _ _ => []
  | .clo _ caps => C.rootsL caps
  | .mp k => [.obj k]
def C.rootsL : List C → List Root
  | [] => []
  | x :: l => C.roots x ++ C.rootsL l
end
mutual
def SV.roots : SV → List Root
  | .c x => x.roots
  | .agg row => C.rootsL row
  | .tup l => SV.rootsL l
def SV.rootsL : List SV → List Root
  | [] => []
  | x :: l => SV.roots x ++ SV.rootsL l
end
theorem C.mem_rootsL {l : List C} {r : Root} : r ∈ C.rootsL l ↔ ∃ x ∈ l, r ∈ x.roots := by
  induction l <;> simp_all [C.rootsL]
theorem SV.mem_rootsL {l : List SV} {r : Root} : r ∈ SV.rootsL l ↔ ∃ x ∈ l, r ∈ x.roots := by
  induction l <;> simp_all [SV.rootsL]

inductive CRep (w : World) (g : Gh) (d : Dirt) : CA → C → Value → Prop where
  | t {a x v} (h : Rep w g a x v) : CRep w g d a (.t x) v
  | ref {a p v} (h : d p.root p.c = false → v = g.hd p) (h1 : v.oneCell' = true) : CRep w g d a (.ref p) v
  | ptr {a p v} (h : p.path ≠ [] → d p.root p.c = false → PRep g p v) (h0 : p.path = [] → PRep g p v) (h1 : v.oneCell' = true) : CRep w g d a (.ptr p) v
  | fp {a row c b off cs el fr} (vs : Nat → Value) (hh : w.heap[b]? = some (.cells cs el fr)) (ho : g.ow b = .frozen)
      (hcell : ∀ j, j < row.length → cs[off + j]? = some (vs j)) (hrec : ∀ j x, row[j]? = some x → FRep w g x (vs j)) :
      CRep w g d a (.fp row c) (.pointer (some ⟨b, off + c, none⟩))
  | clo {a f caps} (vs : Nat → Value) (hn : ∀ x ∈ caps, x.isOwn = false) (h : ∀ j x, caps[j]? = some x → CRep w g d a x (vs j)) :
      CRep w g d a (.clo f caps) (.func (.func f) #[] ((List.range caps.length).map vs).toArray)
  | mp {a k v} (h : v = .map (some (g.bl k).1)) : CRep w g d a (.mp k) v

inductive SVRep (w : World) (g : Gh) (d : Dirt) (r : Root) : Nat → SV → Value → Prop where
  | c {n x v} (h : CRep w g d ⟨r, n, []⟩ x v) : SVRep w g d r n (.c x) v
  | agg {n row} (vs : Nat → Value) (h : ∀ j x, row[j]? = some x → CRep w g d ⟨r, n + j, []⟩ x (vs j)) :
      SVRep w g d r n (.agg row) (.agg ((List.range row.length).map vs).toArray)
  | tup {n l} (vs : Nat → Value) (h : ∀ j x, l[j]? = some x → SVRep w g d r (n + 64 * (j + 1)) x (vs j)) :
      SVRep w g d r n (.tup l) (.tuple ((List.range l.length).map vs).toArray)

/-- How the memory and the ghosts change: `S` are the roots that references may name. -/
structure Keeps (w w' : World) (g g' : Gh) (d d' : Dirt) (S : Root → Prop) : Prop where
  lim : g.lim ≤ g'.lim
  fz : ∀ b, b < w.heap.size → g.ow b = .frozen → g'.ow b = .frozen ∧ w'.heap[b]? = w.heap[b]?
  ref : ∀ r c, S r → d' r c = false → d r c = false ∧ ∀ p, g'.hd ⟨r, c, p⟩ = g.hd ⟨r, c, p⟩
  bl : ∀ k, S (.obj k) → g'.bl k = g.bl k

/-- A place `(r, c)` that is not touched. -/
structure Still (w w' : World) (g g' : Gh) (r : Root) (c : Nat) : Prop where
  own : ∀ b p, b < w.heap.size → g.ow b = .own ⟨r, c, p⟩ → g'.ow b = .own ⟨r, c, p⟩ ∧ w'.heap[b]? = w.heap[b]?
  hd : ∀ p, g'.hd ⟨r, c, p⟩ = g.hd ⟨r, c, p⟩

theorem Rep.still {w w' : World} {g g' : Gh} {d d' : Dirt} {S : Root → Prop} {a : CA} {t : T} {v : Value} (h : Rep w g a t v) (k : Keeps w w' g g' d d' S) (s : Still w w' g g' a.root a.c) : Rep w' g' a t v := by
  refine h.frame k.lim k.fz (fun b a' hl hu ho => ?_) (fun a' hu => ?_)
  · obtain ⟨e1, e2, _⟩ := hu
    have : a' = ⟨a.root, a.c, a'.path⟩ := by cases a'; simp_all
    rw [this] at ho ⊢
    exact s.own b _ hl ho
  · obtain ⟨e1, e2, _⟩ := hu
    have : a' = ⟨a.root, a.c, a'.path⟩ := by cases a'; simp_all
    rw [this]
    exact s.hd _

theorem PRep.still {w w' : World} {g g' : Gh} {d d' : Dirt} {S : Root → Prop} {p : CA} {v : Value} (k : Keeps w w' g g' d d' S) (hs : S p.root) (hd : p.path ≠ [] → d' p.root p.c = false) (h : PRep g p v) : PRep g' p v := by
  unfold PRep at *
  split at h
  · rename_i e
    obtain ⟨j, e1, e2⟩ := h
    exact ⟨j, e1, by rw [k.bl j (e1 ▸ hs)]; exact e2⟩
  · rename_i h' q e
    obtain ⟨b, off, n, cap, e1, e2⟩ := h
    obtain ⟨_, k2⟩ := k.ref _ _ hs (hd (by rw [e]; simp))
    exact ⟨b, off, n, cap, (k2 _).trans e1, e2⟩

theorem CRep.still {w w' : World} {g g' : Gh} {d d' : Dirt} {S : Root → Prop} {a : CA} {x : C} {v : Value} (h : CRep w g d a x v) (k : Keeps w w' g g' d d' S) (hS : ∀ r ∈ x.roots, S r)
    (s : Still w w' g g' a.root a.c) : CRep w' g' d' a x v := by
  induction h with
  | t h => exact .t (h.still k s)
  | ref h h1 => exact .ref (fun e => by obtain ⟨k1, k2⟩ := k.ref _ _ (hS _ (by simp [C.roots])) e; rw [h k1]; exact (k2 _).symm) h1
  | @ptr p v h h0 h1 =>
    have hs : S p.root := hS _ (by simp [C.roots])
    exact .ptr (fun e e2 => (h e (k.ref _ _ hs e2).1).still k hs (fun _ => e2)) (fun e => (h0 e).still k hs (fun n => absurd e n)) h1
  | fp vs hh ho hcell hrec =>
    obtain ⟨e1, e2⟩ := k.fz _ (lt_of_heap hh) ho
    exact .fp vs (e2.trans hh) e1 hcell fun j x hj => (hrec j x hj).frame k.lim k.fz
  | clo vs hn h ih => exact .clo vs hn fun j x hj => ih j x hj fun r hr => hS r (by simp only [C.roots]; exact C.mem_rootsL.2 ⟨x, List.mem_of_getElem? hj, hr⟩)
  | mp h => exact .mp (by rw [k.bl _ (hS _ (by simp [C.roots]))]; exact h)

theorem SVRep.still {w w' : World} {g g' : Gh} {d d' : Dirt} {S : Root → Prop} {r : Root} {n : Nat} {x : SV} {v : Value} (h : SVRep w g d r n x v) (k : Keeps w w' g g' d d' S) (hS : ∀ r ∈ x.roots, S r)
    (s : ∀ c, Still w w' g g' r c) : SVRep w' g' d' r n x v := by
  induction h with
  | c h => exact .c (h.still k hS (s _))
  | agg vs h => exact .agg vs fun j x hj => (h j x hj).still k (fun r hr => hS r (by simp only [SV.roots]; exact C.mem_rootsL.2 ⟨x, List.mem_of_getElem? hj, hr⟩)) (s _)
  | tup vs h ih => exact .tup vs fun j x hj => ih j x hj fun r hr => hS r (by simp only [SV.roots]; exact SV.mem_rootsL.2 ⟨x, List.mem_of_getElem? hj, hr⟩)

/-! ## The state -/
inductive Kind where
  | box (m : Nat)
  | virt
structure Sg where
  slot : Nat → SV
  isnew : Nat → Bool
  cell : Nat → Nat → C
  kind : Nat → Option Kind
  mp : Nat → Option (List (T × T))
  dirty : Dirt
def rt (n : Nat) (isnew : Bool) : Root := if isnew then .new n else .slot n
def Sg.rt (σ : Sg) (n : Nat) : Root := Vx.rt n (σ.isnew n)
/-- The roots that references may name. -/
def Sg.ex (σ : Sg) : Root → Prop
  | .slot _ => True
  | .new n => σ.isnew n = true
  | .obj k => k < 100000 ∨ σ.kind k ≠ none ∨ σ.mp k ≠ none
  | .ret => False

structure Env where
  P : Program
  ng : Nat
  h0 : Array Obj

def ObjRep (w : World) (g : Gh) (σ : Sg) (k : Nat) : Kind → Prop
  | .box m => ∃ cs el, w.heap[(g.bl k).1]? = some (.cells cs el (0, 0)) ∧ g.ow (g.bl k).1 = .box k ∧ (g.bl k).2.2 = m ∧ (g.bl k).2.1 + m ≤ cs.size ∧
      ∀ c, c < m → ∃ u, cs[(g.bl k).2.1 + c]? = some u ∧ CRep w g σ.dirty ⟨.obj k, c, []⟩ (σ.cell k c) u
  | .virt => ∃ u, CRep w g σ.dirty ⟨.obj k, 0, []⟩ (σ.cell k 0) u
def MapRep (w : World) (g : Gh) (k : Nat) (es : List (T × T)) : Prop :=
  ∃ (l : List MapEntry) (ck : Nat), w.heap[(g.bl k).1]? = some (.map l.toArray ck) ∧ g.ow (g.bl k).1 = .box k ∧ l.length = es.length ∧
    ∀ (i : Nat) (e : T × T) (x : MapEntry), es[i]? = some e → l[i]? = some x → FRep w g e.1 x.key ∧ FRep w g e.2 x.val

def SV.flat : SV → Bool
  | .tup l => l.all fun x => match x with | .tup _ => false | .agg row => decide (row.length ≤ 64) | _ => true
  | _ => true
structure Core (E : Env) (σ : Sg) (tmps : Array Value) (w : World) (g : Gh) : Prop where
  slots : ∀ n, SVRep w g σ.dirty (σ.rt n) 0 (σ.slot n) (tmps.getD n undef)
  flat : ∀ n, (σ.slot n).flat = true
  liveS : ∀ n, ∀ r ∈ (σ.slot n).roots, σ.ex r
  liveC : ∀ k c, ∀ r ∈ (σ.cell k c).roots, σ.ex r
  objs : ∀ k kd, σ.kind k = some kd → ObjRep w g σ k kd
  maps : ∀ k es, σ.mp k = some es → MapRep w g k es
  glob : ∀ b, b < E.ng → g.ow b = .other ∧ w.heap[b]? = E.h0[b]?
  size : E.ng ≤ w.heap.size

/-- What a run may change, seen from its beginning: nothing that is frozen or another's; of the boxes that were handed in (numbers below 1000) their cells alone. -/
structure Move (w : World) (g : Gh) (w' : World) (g' : Gh) : Prop where
  size : w.heap.size ≤ w'.heap.size
  lim : g'.lim = g.lim
  keep : ∀ b, b < w.heap.size → g.ow b = .frozen ∨ g.ow b = .other → g'.ow b = g.ow b ∧ w'.heap[b]? = w.heap[b]?
  bl : ∀ k, k < 1000 → g'.bl k = g.bl k
  box : ∀ b k, b < w.heap.size → k < 1000 → g.ow b = .box k → g'.ow b = .box k ∧
    ∀ cs el fr, w.heap[b]? = some (.cells cs el fr) → ∃ cs', w'.heap[b]? = some (.cells cs' el fr) ∧ cs'.size = cs.size ∧
      ∀ i, (i < (g.bl k).2.1 ∨ (g.bl k).2.1 + (g.bl k).2.2 ≤ i) → cs'[i]? = cs[i]?
  env : w'.os = w.os ∧ w'.tape = w.tape ∧ w'.output = w.output
theorem Move.refl (w : World) (g : Gh) : Move w g w g :=
  ⟨Nat.le_refl _, rfl, fun _ _ _ => ⟨rfl, rfl⟩, fun _ _ => rfl, fun _ _ _ _ h => ⟨h, fun cs _ _ hh => ⟨cs, hh, rfl, fun _ _ => rfl⟩⟩, rfl, rfl, rfl⟩
theorem Move.trans {w w1 w2 : World} {g g1 g2 : Gh} (h : Move w g w1 g1) (k : Move w1 g1 w2 g2) : Move w g w2 g2 := by
  refine ⟨Nat.le_trans h.size k.size, k.lim.trans h.lim, fun b hb ho => ?_, fun j hj => (k.bl j hj).trans (h.bl j hj), fun b j hb hj ho => ?_, k.env.1.trans h.env.1, k.env.2.1.trans h.env.2.1, k.env.2.2.trans h.env.2.2⟩
  · obtain ⟨e1, e2⟩ := h.keep b hb ho
    obtain ⟨f1, f2⟩ := k.keep b (Nat.lt_of_lt_of_le hb h.size) (by rw [e1]; exact ho)
    exact ⟨f1.trans e1, f2.trans e2⟩
  · obtain ⟨e1, e2⟩ := h.box b j hb hj ho
    obtain ⟨f1, f2⟩ := k.box b j (Nat.lt_of_lt_of_le hb h.size) hj e1
    refine ⟨f1, fun cs el fr hh => ?_⟩
    obtain ⟨cs1, a1, a2, a3⟩ := e2 cs el fr hh
    obtain ⟨cs2, b1, b2, b3⟩ := f2 cs1 el fr a1
    refine ⟨cs2, b1, b2.trans a2, fun i hi => ?_⟩
    rw [b3 i (by rw [h.bl j hj]; exact hi), a3 i hi]
end Vx
