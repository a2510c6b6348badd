import Derived.Orders
import Derived.Tactics
namespace Vx
open Go

/-! ## The data of one cell -/
inductive T where
  | int (k : IntKind) (n : Int)
  | bool (b : Bool)
  | str (s : ByteArray)
  | val (v : Value)
  | top
  | nil
  | sl (o : Bool) (sz : Nat) (xs : List (List T))
  deriving Inhabited

inductive Root where
  | slot (n : Nat)
  | new (n : Nat)
  | obj (k : Nat)
  | ret
  deriving DecidableEq, Inhabited

structure Hop where
  i : Nat
  sz : Nat
  c : Nat
  deriving DecidableEq, Inhabited

/-- An abstract address: a cell of a root, and (the last one first) the hops through owned slices. -/
structure CA where
  root : Root
  c : Nat
  path : List Hop
  deriving DecidableEq, Inhabited

def CA.hop (a : CA) (h : Hop) : CA := { a with path := h :: a.path }
def CA.under (a p : CA) : Prop := a.root = p.root ∧ a.c = p.c ∧ ∃ s, a.path = s ++ p.path

theorem CA.under_refl (a : CA) : a.under a := ⟨rfl, rfl, [], rfl⟩
theorem CA.under_hop (a : CA) (h : Hop) : (a.hop h).under a := ⟨rfl, rfl, [h], rfl⟩
theorem CA.under_trans {a b c : CA} (h : a.under b) (k : b.under c) : a.under c := by
  obtain ⟨h1, h2, s, h3⟩ := h
  obtain ⟨k1, k2, u, k3⟩ := k
  exact ⟨h1.trans k1, h2.trans k2, s ++ u, by rw [h3, k3, List.append_assoc]⟩
theorem CA.under_of_hop {a p : CA} {h : Hop} (k : a.under (p.hop h)) : a.under p := CA.under_trans k (CA.under_hop p h)

mutual
/-- The datum as whoever only reads it sees it. -/
def T.view : T → T
  | .sl _ sz xs => .sl false sz (T.viewR xs)
  | t => t
def T.viewR : List (List T) → List (List T)
  | [] => []
  | r :: rs => T.viewL r :: T.viewR rs
def T.viewL : List T → List T
  | [] => []
  | t :: ts => T.view t :: T.viewL ts
end
theorem T.viewL_eq (l : List T) : T.viewL l = l.map T.view := by induction l <;> simp_all [T.viewL]
theorem T.viewR_eq (l : List (List T)) : T.viewR l = l.map (·.map T.view) := by induction l <;> simp_all [T.viewR, T.viewL_eq]
theorem T.view_sl (o : Bool) (sz : Nat) (xs : List (List T)) : T.view (.sl o sz xs) = .sl false sz (xs.map (·.map T.view)) := by
  simp [T.view, T.viewR_eq]

mutual
/-- No frozen part: nothing in it is shared. -/
def T.noFz : T → Bool
  | .sl o _ xs => (o || xs.isEmpty) && T.noFzR xs
  | _ => true
def T.noFzR : List (List T) → Bool
  | [] => true
  | r :: rs => T.noFzL r && T.noFzR rs
def T.noFzL : List T → Bool
  | [] => true
  | t :: ts => T.noFz t && T.noFzL ts
end
theorem T.noFzL_eq (l : List T) : T.noFzL l = l.all T.noFz := by induction l <;> simp_all [T.noFzL]
theorem T.noFzR_eq (l : List (List T)) : T.noFzR l = l.all (·.all T.noFz) := by induction l <;> simp_all [T.noFzR, T.noFzL_eq]
theorem T.noFz_sl (o : Bool) (sz : Nat) (xs : List (List T)) : T.noFz (.sl o sz xs) = ((o || xs.isEmpty) && xs.all (·.all T.noFz)) := by
  simp [T.noFz, T.noFzR_eq]

/-- A part of an owned slice. -/
def T.sub (t : T) (h : Hop) : Option T :=
  match t with
  | .sl true sz xs => if h.sz = sz then (xs[h.i]?).bind (·[h.c]?) else none
  | _ => none
def T.setSub (t : T) (h : Hop) (u : T) : T :=
  match t with
  | .sl true sz xs => .sl true sz (xs.set h.i ((xs.getD h.i []).set h.c u))
  | t => t
def T.at (t : T) : List Hop → Option T
  | [] => some t
  | h :: p => (t.at p).bind (·.sub h)
def T.put (t : T) : List Hop → T → T
  | [], u => u
  | h :: p, u => match t.at p with
    | some x => t.put p (x.setSub h u)
    | none => t

/-! ## Ghosts -/
inductive Tag where
  | other
  | frozen
  | box (k : Nat)
  | own (a : CA)
  deriving Inhabited
structure Gh where
  ow : Nat → Tag
  hd : CA → Value
  bl : Nat → Nat × Nat × Nat
  lim : Nat

/-- What owns nothing. -/
inductive FRep (w : World) (g : Gh) : T → Value → Prop where
  | int {k n} : FRep w g (.int k n) (.int k n)
  | bool {b} : FRep w g (.bool b) (.bool b)
  | str {s} : s.size ≤ g.lim → FRep w g (.str s) (.string s)
  | val {v} : FRep w g (.val v) v
  | top {v} : FRep w g .top v
  | nil : FRep w g .nil (.slice none 0 0)
  | fnil {sz p c} : FRep w g (.sl false sz []) (.slice p 0 c)
  | fz {b off cap sz xs cs el fr} (vs : Nat → Nat → Value) (hh : w.heap[b]? = some (.cells cs el fr)) (ho : g.ow b = .frozen)
      (hcap : xs.length ≤ cap) (hlim : xs.length ≤ g.lim) (hrow : ∀ row ∈ xs, row.length = sz)
      (hcell : ∀ i c, i < xs.length → c < sz → cs[off + i * sz + c]? = some (vs i c))
      (hrec : ∀ i row c t, xs[i]? = some row → row[c]? = some t → FRep w g t (vs i c)) :
      FRep w g (.sl false sz xs) (.slice (some ⟨b, off, none⟩) xs.length cap)
inductive Rep (w : World) (g : Gh) : CA → T → Value → Prop where
  | fro {a t v} (h : FRep w g t v) : Rep w g a t v
  | onil {a sz} (hd : g.hd a = .slice none 0 0) : Rep w g a (.sl true sz []) (.slice none 0 0)
  | own {a b off cap sz xs cs el} (vs : Nat → Nat → Value) (hd : g.hd a = .slice (some ⟨b, off, none⟩) xs.length cap)
      (hh : w.heap[b]? = some (.cells cs el (0, 0))) (ho : g.ow b = .own a) (hsize : cs.size = off + cap * sz)
      (hcap : xs.length ≤ cap) (hlim : xs.length ≤ g.lim) (hrow : ∀ row ∈ xs, row.length = sz)
      (hcell : ∀ i c, i < xs.length → c < sz → cs[off + i * sz + c]? = some (vs i c))
      (hrec : ∀ i row c t, xs[i]? = some row → row[c]? = some t → Rep w g (a.hop ⟨i, sz, c⟩) t (vs i c)) :
      Rep w g a (.sl true sz xs) (.slice (some ⟨b, off, none⟩) xs.length cap)

theorem lt_of_heap {w : World} {b : Nat} {o : Obj} (h : w.heap[b]? = some o) : b < w.heap.size := by
  rcases Nat.lt_or_ge b w.heap.size with k | k
  · exact k
  · rw [Array.getElem?_eq_none k] at h; exact absurd h (by simp)

theorem FRep.frame {w w' : World} {g g' : Gh} {t : T} {v : Value} (h : FRep w g t v) (hl : g.lim ≤ g'.lim)
    (hfz : ∀ b, b < w.heap.size → g.ow b = .frozen → g'.ow b = .frozen ∧ w'.heap[b]? = w.heap[b]?) : FRep w' g' t v := by
  induction h with
  | int => exact .int
  | bool => exact .bool
  | str h => exact .str (Nat.le_trans h hl)
  | val => exact .val
  | top => exact .top
  | nil => exact .nil
  | fnil => exact .fnil
  | fz vs hh ho hcap hlim hrow hcell hrec ih =>
    obtain ⟨ho', hw'⟩ := hfz _ (lt_of_heap hh) ho
    exact .fz vs (hw'.trans hh) ho' hcap (Nat.le_trans hlim hl) hrow hcell fun i row c t h1 h2 => ih i row c t h1 h2

/-- Frame and renaming in one: what is read stays, and the places below `a` are renamed by `f`. -/
theorem Rep.map {w w' : World} {g g' : Gh} (f : CA → CA) {a : CA} {t : T} {v : Value} (h : Rep w g a t v) (hl : g.lim ≤ g'.lim)
    (hf : ∀ a', a'.under a → ∀ s, f (a'.hop s) = (f a').hop s)
    (hfz : ∀ b, b < w.heap.size → g.ow b = .frozen → g'.ow b = .frozen ∧ w'.heap[b]? = w.heap[b]?)
    (how : ∀ b a', b < w.heap.size → a'.under a → g.ow b = .own a' → g'.ow b = .own (f a') ∧ w'.heap[b]? = w.heap[b]?)
    (hhd : ∀ a', a'.under a → g'.hd (f a') = g.hd a') : Rep w' g' (f a) t v := by
  induction h with
  | fro h => exact .fro (h.frame hl hfz)
  | onil hd => exact .onil ((hhd _ (CA.under_refl _)).trans hd)
  | @own a b off cap sz xs cs el vs hd hh ho hsize hcap hlim hrow hcell hrec ih =>
    obtain ⟨ho', hw'⟩ := how _ a (lt_of_heap hh) (CA.under_refl _) ho
    refine .own vs ((hhd _ (CA.under_refl _)).trans hd) (hw'.trans hh) ho' hsize hcap (Nat.le_trans hlim hl) hrow hcell fun i row c t h1 h2 => ?_
    have := ih i row c t h1 h2 (fun a' h => hf a' (CA.under_of_hop h)) (fun b a' hl h => how b a' hl (CA.under_of_hop h)) (fun a' h => hhd a' (CA.under_of_hop h))
    rw [hf a (CA.under_refl _)] at this
    exact this

theorem Rep.frame {w w' : World} {g g' : Gh} {a : CA} {t : T} {v : Value} (h : Rep w g a t v) (hl : g.lim ≤ g'.lim)
    (hfz : ∀ b, b < w.heap.size → g.ow b = .frozen → g'.ow b = .frozen ∧ w'.heap[b]? = w.heap[b]?)
    (how : ∀ b a', b < w.heap.size → a'.under a → g.ow b = .own a' → g'.ow b = .own a' ∧ w'.heap[b]? = w.heap[b]?)
    (hhd : ∀ a', a'.under a → g'.hd a' = g.hd a') : Rep w' g' a t v :=
  Rep.map id h hl (fun _ _ _ => rfl) hfz how hhd

theorem FRep.view {w : World} {g : Gh} {t : T} {v : Value} (h : FRep w g t v) : FRep w g t.view v := by
  induction h with
  | int => exact .int
  | bool => exact .bool
  | str h => exact .str h
  | val => exact .val
  | top => exact .top
  | nil => exact .nil
  | fnil => exact .fnil
  | @fz b off cap sz xs cs el fr vs hh ho hcap hlim hrow hcell hrec ih =>
    rw [T.view_sl]
    have := FRep.fz (w := w) (g := g) (xs := xs.map (·.map T.view)) (cap := cap) (sz := sz) (off := off) vs hh ho (by simpa using hcap) (by simpa using hlim)
      (by simpa using hrow) (by simpa using hcell) (fun i row c t h1 h2 => by
        simp only [List.getElem?_map, Option.map_eq_some_iff] at h1
        obtain ⟨r, h1, rfl⟩ := h1
        simp only [List.getElem?_map, Option.map_eq_some_iff] at h2
        obtain ⟨u, h2, rfl⟩ := h2
        exact ih i r c u h1 h2)
    simpa using this

/-- What is owned below `a` becomes frozen. -/
theorem Rep.freeze {w : World} {g g' : Gh} {a : CA} {t : T} {v : Value} (h : Rep w g a t v) (hl : g.lim ≤ g'.lim)
    (hfz : ∀ b, b < w.heap.size → g.ow b = .frozen → g'.ow b = .frozen)
    (how : ∀ b a', b < w.heap.size → a'.under a → g.ow b = .own a' → g'.ow b = .frozen) : FRep w g' t.view v := by
  induction h with
  | fro h => exact (h.frame hl fun b hb ho => ⟨hfz b hb ho, rfl⟩).view
  | onil hd => exact .fnil
  | @own a b off cap sz xs cs el vs hd hh ho hsize hcap hlim hrow hcell hrec ih =>
    rw [T.view_sl]
    have := FRep.fz (w := w) (g := g') (xs := xs.map (·.map T.view)) (cap := cap) (sz := sz) (off := off) vs hh (how _ a (lt_of_heap hh) (CA.under_refl _) ho) (by simpa using hcap) (by simpa using Nat.le_trans hlim hl)
      (by simpa using hrow) (by simpa using hcell) (fun i row c t h1 h2 => by
        simp only [List.getElem?_map, Option.map_eq_some_iff] at h1
        obtain ⟨r, h1, rfl⟩ := h1
        simp only [List.getElem?_map, Option.map_eq_some_iff] at h2
        obtain ⟨u, h2, rfl⟩ := h2
        exact ih i r c u h1 h2 fun b a' hl h => how b a' hl (CA.under_of_hop h))
    simpa using this

theorem Rep.isFro {w : World} {g : Gh} {a : CA} {t : T} {v : Value} (h : Rep w g a t v) (hn : ∀ sz xs, t ≠ .sl true sz xs) : FRep w g t v := by
  cases h with
  | fro h => exact h
  | onil => exact absurd rfl (hn _ _)
  | own => exact absurd rfl (hn _ _)
theorem FRep.noOwn {w : World} {g : Gh} {sz : Nat} {xs : List (List T)} {v : Value} (h : FRep w g (.sl true sz xs) v) : False := by cases h
theorem Rep.closed {w : World} {g : Gh} {a : CA} {t : T} {v : Value} (h : Rep w g a t v) (hv : t.view = t) : FRep w g t v :=
  h.isFro fun sz xs e => by subst e; simp [T.view_sl] at hv
end Vx
