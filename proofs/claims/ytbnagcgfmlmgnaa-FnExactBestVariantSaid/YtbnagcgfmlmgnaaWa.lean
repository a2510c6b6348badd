import Derived.Orders
import Derived.Tactics
import Derived.Laws.Sem
import Derived.Laws.Cells
import Derived.Laws.CopyRow
import Derived.Laws.Strings
import Derived.Great.FillDense
import Derived.Laws.Tables
/- An abstract machine over data for this translation, part 1 of 4: what it reads and writes stands for what the program does. No condition. -/
set_option linter.unusedVariables false
set_option linter.unusedSimpArgs false
namespace Vx
open Go

/-! ## The data of one cell -/
inductive T where
  | int (k : IntKind) (n : Int)
  | bool (b : Bool)
  | str (s : ByteArray)
  | val (v : Value)
  | top
  | nil
  | may (p q : Prop)
  | sl (o : Bool) (sz : Nat) (xs : List (List T))
  deriving Inhabited

inductive Root where
  | slot (n : Nat)
  | new (n : Nat)
  | obj (k : Nat)
  | ret
  deriving DecidableEq, Inhabited

structure Hop where
  i : Nat
  sz : Nat
  c : Nat
  deriving DecidableEq, Inhabited

/-- An abstract address: a cell of a root, and (the last one first) the hops through owned slices. -/
structure CA where
  root : Root
  c : Nat
  path : List Hop
  deriving DecidableEq, Inhabited

def CA.hop (a : CA) (h : Hop) : CA := { a with path := h :: a.path }
def CA.under (a p : CA) : Prop := a.root = p.root ∧ a.c = p.c ∧ ∃ s, a.path = s ++ p.path

theorem CA.under_refl (a : CA) : a.under a := ⟨rfl, rfl, [], rfl⟩
theorem CA.under_hop (a : CA) (h : Hop) : (a.hop h).under a := ⟨rfl, rfl, [h], rfl⟩
theorem CA.under_trans {a b c : CA} (h : a.under b) (k : b.under c) : a.under c := by
  obtain ⟨h1, h2, s, h3⟩ := h
  obtain ⟨k1, k2, u, k3⟩ := k
  exact ⟨h1.trans k1, h2.trans k2, s ++ u, by rw [h3, k3, List.append_assoc]⟩
theorem CA.under_of_hop {a p : CA} {h : Hop} (k : a.under (p.hop h)) : a.under p := CA.under_trans k (CA.under_hop p h)

mutual
/-- The datum as whoever only reads it sees it. -/
def T.view : T → T
  | .sl _ sz xs => .sl false sz (T.viewR xs)
  | t => t
def T.viewR : List (List T) → List (List T)
  | [] => []
  | r :: rs => T.viewL r :: T.viewR rs
def T.viewL : List T → List T
  | [] => []
  | t :: ts => T.view t :: T.viewL ts
end
theorem T.viewL_eq (l : List T) : T.viewL l = l.map T.view := by induction l <;> simp_all [T.viewL]
theorem T.viewR_eq (l : List (List T)) : T.viewR l = l.map (·.map T.view) := by induction l <;> simp_all [T.viewR, T.viewL_eq]
theorem T.view_sl (o : Bool) (sz : Nat) (xs : List (List T)) : T.view (.sl o sz xs) = .sl false sz (xs.map (·.map T.view)) := by
  simp [T.view, T.viewR_eq]

mutual
/-- No frozen part: nothing in it is shared. -/
def T.noFz : T → Bool
  | .sl o _ xs => (o || xs.isEmpty) && T.noFzR xs
  | _ => true
def T.noFzR : List (List T) → Bool
  | [] => true
  | r :: rs => T.noFzL r && T.noFzR rs
def T.noFzL : List T → Bool
  | [] => true
  | t :: ts => T.noFz t && T.noFzL ts
end
theorem T.noFzL_eq (l : List T) : T.noFzL l = l.all T.noFz := by induction l <;> simp_all [T.noFzL]
theorem T.noFzR_eq (l : List (List T)) : T.noFzR l = l.all (·.all T.noFz) := by induction l <;> simp_all [T.noFzR, T.noFzL_eq]
theorem T.noFz_sl (o : Bool) (sz : Nat) (xs : List (List T)) : T.noFz (.sl o sz xs) = ((o || xs.isEmpty) && xs.all (·.all T.noFz)) := by
  simp [T.noFz, T.noFzR_eq]

/-- A part of an owned slice. -/
def T.sub (t : T) (h : Hop) : Option T :=
  match t with
  | .sl true sz xs => if h.sz = sz then (xs[h.i]?).bind (·[h.c]?) else none
  | _ => none
def T.setSub (t : T) (h : Hop) (u : T) : T :=
  match t with
  | .sl true sz xs => .sl true sz (xs.set h.i ((xs.getD h.i []).set h.c u))
  | t => t
def T.at (t : T) : List Hop → Option T
  | [] => some t
  | h :: p => (t.at p).bind (·.sub h)
def T.put (t : T) : List Hop → T → T
  | [], u => u
  | h :: p, u => match t.at p with
    | some x => t.put p (x.setSub h u)
    | none => t

/-! ## Ghosts -/
inductive Tag where
  | other
  | frozen
  | box (k : Nat)
  | own (a : CA)
  deriving Inhabited
structure Gh where
  ow : Nat → Tag
  hd : CA → Value
  bl : Nat → Nat × Nat × Nat
  lim : Nat

/-- What owns nothing. -/
inductive FRep (w : World) (g : Gh) : T → Value → Prop where
  | int {k n} : FRep w g (.int k n) (.int k n)
  | bool {b} : FRep w g (.bool b) (.bool b)
  | str {s} : s.size ≤ g.lim → FRep w g (.str s) (.string s)
  | val {v} : FRep w g (.val v) v
  | top {v} : FRep w g .top v
  | nil : FRep w g .nil (.slice none 0 0)
  | may {p q b} (h : b = true → p) (h' : b = false → q) : FRep w g (.may p q) (.bool b)
  | fnil {sz p c} : FRep w g (.sl false sz []) (.slice p 0 c)
  | fz {b off cap sz xs cs el fr} (vs : Nat → Nat → Value) (hh : w.heap[b]? = some (.cells cs el fr)) (ho : g.ow b = .frozen)
      (hcap : xs.length ≤ cap) (hlim : xs.length ≤ g.lim) (hrow : ∀ row ∈ xs, row.length = sz)
      (hcell : ∀ i c, i < xs.length → c < sz → cs[off + i * sz + c]? = some (vs i c))
      (hrec : ∀ i row c t, xs[i]? = some row → row[c]? = some t → FRep w g t (vs i c)) :
      FRep w g (.sl false sz xs) (.slice (some ⟨b, off, none⟩) xs.length cap)
inductive Rep (w : World) (g : Gh) : CA → T → Value → Prop where
  | fro {a t v} (h : FRep w g t v) : Rep w g a t v
  | onil {a sz} (hd : g.hd a = .slice none 0 0) : Rep w g a (.sl true sz []) (.slice none 0 0)
  | own {a b off cap sz xs cs el} (vs : Nat → Nat → Value) (hd : g.hd a = .slice (some ⟨b, off, none⟩) xs.length cap)
      (hh : w.heap[b]? = some (.cells cs el (0, 0))) (ho : g.ow b = .own a) (hsize : cs.size = off + cap * sz)
      (hcap : xs.length ≤ cap) (hlim : xs.length ≤ g.lim) (hrow : ∀ row ∈ xs, row.length = sz)
      (hcell : ∀ i c, i < xs.length → c < sz → cs[off + i * sz + c]? = some (vs i c))
      (hrec : ∀ i row c t, xs[i]? = some row → row[c]? = some t → Rep w g (a.hop ⟨i, sz, c⟩) t (vs i c)) :
      Rep w g a (.sl true sz xs) (.slice (some ⟨b, off, none⟩) xs.length cap)

theorem lt_of_heap {w : World} {b : Nat} {o : Obj} (h : w.heap[b]? = some o) : b < w.heap.size := by
  rcases Nat.lt_or_ge b w.heap.size with k | k
  · exact k
  · rw [Array.getElem?_eq_none k] at h; exact absurd h (by simp)

theorem FRep.frame {w w' : World} {g g' : Gh} {t : T} {v : Value} (h : FRep w g t v) (hl : g.lim ≤ g'.lim)
    (hfz : ∀ b, b < w.heap.size → g.ow b = .frozen → g'.ow b = .frozen ∧ w'.heap[b]? = w.heap[b]?) : FRep w' g' t v := by
  induction h with
  | int => exact .int
  | bool => exact .bool
  | str h => exact .str (Nat.le_trans h hl)
  | val => exact .val
  | top => exact .top
  | nil => exact .nil
  | may h h' => exact .may h h'
  | fnil => exact .fnil
  | fz vs hh ho hcap hlim hrow hcell hrec ih =>
    obtain ⟨ho', hw'⟩ := hfz _ (lt_of_heap hh) ho
    exact .fz vs (hw'.trans hh) ho' hcap (Nat.le_trans hlim hl) hrow hcell fun i row c t h1 h2 => ih i row c t h1 h2

/-- Frame and renaming in one: what is read stays, and the places below `a` are renamed by `f`. -/
theorem Rep.map {w w' : World} {g g' : Gh} (f : CA → CA) {a : CA} {t : T} {v : Value} (h : Rep w g a t v) (hl : g.lim ≤ g'.lim)
    (hf : ∀ a', a'.under a → ∀ s, f (a'.hop s) = (f a').hop s)
    (hfz : ∀ b, b < w.heap.size → g.ow b = .frozen → g'.ow b = .frozen ∧ w'.heap[b]? = w.heap[b]?)
    (how : ∀ b a', b < w.heap.size → a'.under a → g.ow b = .own a' → g'.ow b = .own (f a') ∧ w'.heap[b]? = w.heap[b]?)
    (hhd : ∀ a', a'.under a → g'.hd (f a') = g.hd a') : Rep w' g' (f a) t v := by
  induction h with
  | fro h => exact .fro (h.frame hl hfz)
  | onil hd => exact .onil ((hhd _ (CA.under_refl _)).trans hd)
  | @own a b off cap sz xs cs el vs hd hh ho hsize hcap hlim hrow hcell hrec ih =>
    obtain ⟨ho', hw'⟩ := how _ a (lt_of_heap hh) (CA.under_refl _) ho
    refine .own vs ((hhd _ (CA.under_refl _)).trans hd) (hw'.trans hh) ho' hsize hcap (Nat.le_trans hlim hl) hrow hcell fun i row c t h1 h2 => ?_
    have := ih i row c t h1 h2 (fun a' h => hf a' (CA.under_of_hop h)) (fun b a' hl h => how b a' hl (CA.under_of_hop h)) (fun a' h => hhd a' (CA.under_of_hop h))
    rw [hf a (CA.under_refl _)] at this
    exact this

theorem Rep.frame {w w' : World} {g g' : Gh} {a : CA} {t : T} {v : Value} (h : Rep w g a t v) (hl : g.lim ≤ g'.lim)
    (hfz : ∀ b, b < w.heap.size → g.ow b = .frozen → g'.ow b = .frozen ∧ w'.heap[b]? = w.heap[b]?)
    (how : ∀ b a', b < w.heap.size → a'.under a → g.ow b = .own a' → g'.ow b = .own a' ∧ w'.heap[b]? = w.heap[b]?)
    (hhd : ∀ a', a'.under a → g'.hd a' = g.hd a') : Rep w' g' a t v :=
  Rep.map id h hl (fun _ _ _ => rfl) hfz how hhd

theorem FRep.view {w : World} {g : Gh} {t : T} {v : Value} (h : FRep w g t v) : FRep w g t.view v := by
  induction h with
  | int => exact .int
  | bool => exact .bool
  | str h => exact .str h
  | val => exact .val
  | top => exact .top
  | nil => exact .nil
  | may h h' => exact .may h h'
  | fnil => exact .fnil
  | @fz b off cap sz xs cs el fr vs hh ho hcap hlim hrow hcell hrec ih =>
    rw [T.view_sl]
    have := FRep.fz (w := w) (g := g) (xs := xs.map (·.map T.view)) (cap := cap) (sz := sz) (off := off) vs hh ho (by simpa using hcap) (by simpa using hlim)
      (by simpa using hrow) (by simpa using hcell) (fun i row c t h1 h2 => by
        simp only [List.getElem?_map, Option.map_eq_some_iff] at h1
        obtain ⟨r, h1, rfl⟩ := h1
        simp only [List.getElem?_map, Option.map_eq_some_iff] at h2
        obtain ⟨u, h2, rfl⟩ := h2
        exact ih i r c u h1 h2)
    simpa using this

/-- What is owned below `a` becomes frozen. -/
theorem Rep.freeze {w : World} {g g' : Gh} {a : CA} {t : T} {v : Value} (h : Rep w g a t v) (hl : g.lim ≤ g'.lim)
    (hfz : ∀ b, b < w.heap.size → g.ow b = .frozen → g'.ow b = .frozen)
    (how : ∀ b a', b < w.heap.size → a'.under a → g.ow b = .own a' → g'.ow b = .frozen) : FRep w g' t.view v := by
  induction h with
  | fro h => exact (h.frame hl fun b hb ho => ⟨hfz b hb ho, rfl⟩).view
  | onil hd => exact .fnil
  | @own a b off cap sz xs cs el vs hd hh ho hsize hcap hlim hrow hcell hrec ih =>
    rw [T.view_sl]
    have := FRep.fz (w := w) (g := g') (xs := xs.map (·.map T.view)) (cap := cap) (sz := sz) (off := off) vs hh (how _ a (lt_of_heap hh) (CA.under_refl _) ho) (by simpa using hcap) (by simpa using Nat.le_trans hlim hl)
      (by simpa using hrow) (by simpa using hcell) (fun i row c t h1 h2 => by
        simp only [List.getElem?_map, Option.map_eq_some_iff] at h1
        obtain ⟨r, h1, rfl⟩ := h1
        simp only [List.getElem?_map, Option.map_eq_some_iff] at h2
        obtain ⟨u, h2, rfl⟩ := h2
        exact ih i r c u h1 h2 fun b a' hl h => how b a' hl (CA.under_of_hop h))
    simpa using this

theorem Rep.isFro {w : World} {g : Gh} {a : CA} {t : T} {v : Value} (h : Rep w g a t v) (hn : ∀ sz xs, t ≠ .sl true sz xs) : FRep w g t v := by
  cases h with
  | fro h => exact h
  | onil => exact absurd rfl (hn _ _)
  | own => exact absurd rfl (hn _ _)
theorem FRep.noOwn {w : World} {g : Gh} {sz : Nat} {xs : List (List T)} {v : Value} (h : FRep w g (.sl true sz xs) v) : False := by cases h
theorem Rep.closed {w : World} {g : Gh} {a : CA} {t : T} {v : Value} (h : Rep w g a t v) (hv : t.view = t) : FRep w g t v :=
  h.isFro fun sz xs e => by subst e; simp [T.view_sl] at hv
end Vx

namespace Vx
open Go

def CA.go (a : CA) (p : List Hop) : CA := { a with path := p ++ a.path }
theorem CA.go_nil (a : CA) : a.go [] = a := rfl
theorem CA.go_cons (a : CA) (h : Hop) (p : List Hop) : a.go (h :: p) = (a.go p).hop h := rfl
theorem CA.under_go (a : CA) (p : List Hop) : (a.go p).under a := ⟨rfl, rfl, p, rfl⟩

theorem CA.hop_apart {a a' : CA} {h h' : Hop} (k : a'.under (a.hop h')) (k2 : a'.under (a.hop h)) : h = h' := by
  obtain ⟨_, _, s, e⟩ := k
  obtain ⟨_, _, u, f⟩ := k2
  simp only [CA.hop] at e f
  rw [e] at f
  have h1 : (s ++ [h']) ++ a.path = (u ++ [h]) ++ a.path := by simpa using f
  have h2 := List.append_cancel_right h1
  have h3 := congrArg List.getLast? h2
  simp at h3
  exact h3.symm
theorem CA.not_under_hop (a : CA) (h : Hop) : ¬ a.under (a.hop h) := by
  rintro ⟨_, _, s, e⟩
  simp only [CA.hop] at e
  have := congrArg List.length e
  simp at this
  omega

structure Stay (w w' : World) (g g' : Gh) (a : CA) (S : CA → Prop) : Prop where
  lim : g.lim ≤ g'.lim
  fz : ∀ b, b < w.heap.size → g.ow b = .frozen → g'.ow b = .frozen ∧ w'.heap[b]? = w.heap[b]?
  own : ∀ b a', b < w.heap.size → a'.under a → ¬ S a' → g.ow b = .own a' → g'.ow b = .own a' ∧ w'.heap[b]? = w.heap[b]?
  hd : ∀ a', a'.under a → ¬ S a' → g'.hd a' = g.hd a'

theorem Stay.rep {w w' : World} {g g' : Gh} {a : CA} {S : CA → Prop} {t : T} {v : Value} (s : Stay w w' g g' a S) (h : Rep w g a t v) (hS : ∀ a', a'.under a → ¬ S a') :
    Rep w' g' a t v :=
  h.frame s.lim s.fz (fun b a' hl k => s.own b a' hl k (hS a' k)) (fun a' k => s.hd a' k (hS a' k))

/-- One part of an owned slice is replaced, its cell may have changed. -/
theorem Rep.setSub {w w' : World} {g g' : Gh} {a : CA} {t x y : T} {v u' : Value} {h : Hop} (hr : Rep w g a t v) (hs : t.sub h = some x)
    (st : Stay w w' g g' a fun a' => a' = a ∨ a'.under (a.hop h))
    (hhd : g'.hd a = g.hd a)
    (hb : ∀ b off n cap cs el, v = .slice (some ⟨b, off, none⟩) n cap → g.ow b = .own a → w.heap[b]? = some (.cells cs el (0, 0)) → off + h.i * h.sz + h.c < cs.size →
      g'.ow b = .own a ∧ w'.heap[b]? = some (.cells (cs.setIfInBounds (off + h.i * h.sz + h.c) u') el (0, 0)))
    (hy : Rep w' g' (a.hop h) y u') : Rep w' g' a (t.setSub h y) v := by
  cases hr with
  | own vs hd hh ho hsize hcap hlim hrow hcell hrec =>
    rename_i b off cap sz xs cs el
    simp only [T.sub] at hs
    by_cases e : h.sz = sz
    · subst e
      rw [if_pos rfl] at hs
      cases hi : xs[h.i]? with
      | none => rw [hi] at hs; exact absurd hs (by simp)
      | some row =>
        rw [hi] at hs
        simp only [Option.bind_some] at hs
        have hil : h.i < xs.length := by
          rcases Nat.lt_or_ge h.i xs.length with k | k
          · exact k
          · rw [List.getElem?_eq_none k] at hi; exact absurd hi (by simp)
        have hrl : row.length = h.sz := hrow row (List.mem_of_getElem? hi)
        have hcl : h.c < h.sz := by
          rcases Nat.lt_or_ge h.c row.length with k | k
          · omega
          · rw [List.getElem?_eq_none k] at hs; exact absurd hs (by simp)
        have hbound : off + h.i * h.sz + h.c < cs.size := by
          have := hcell h.i h.c hil hcl
          rcases Nat.lt_or_ge (off + h.i * h.sz + h.c) cs.size with k | k
          · exact k
          · rw [Array.getElem?_eq_none k] at this; exact absurd this (by simp)
        obtain ⟨ho', hh'⟩ := hb b off _ cap cs el rfl ho hh hbound
        simp only [T.setSub]
        have hgd : xs.getD h.i [] = row := by simp [List.getD, hi]
        rw [hgd]
        have hlen : (xs.set h.i (row.set h.c y)).length = xs.length := List.length_set
        have key := Rep.own (w := w') (g := g') (a := a) (b := b) (off := off) (cap := cap) (sz := h.sz) (xs := xs.set h.i (row.set h.c y)) (cs := cs.setIfInBounds (off + h.i * h.sz + h.c) u') (el := el)
          (fun i c => if i = h.i ∧ c = h.c then u' else vs i c) (by rw [hhd, hd, hlen]) hh' ho' (by simpa using hsize) (by rw [hlen]; exact hcap) (by rw [hlen]; exact Nat.le_trans hlim st.lim)
          (by
            intro r hr
            rcases List.mem_or_eq_of_mem_set hr with k | k
            · exact hrow r k
            · rw [k]; simpa using hrl)
          (by
            intro i c hi' hc'
            rw [hlen] at hi'
            have h0 := hcell i c hi' hc'
            by_cases k : i = h.i ∧ c = h.c
            · obtain ⟨rfl, rfl⟩ := k
              simp [hbound]
            · rw [if_neg k]
              have hne : off + h.i * h.sz + h.c ≠ off + i * h.sz + c := by
                intro q
                apply k
                have q2 : h.i * h.sz + h.c = i * h.sz + c := by omega
                have hpos : 0 < h.sz := by omega
                have d1 : (h.i * h.sz + h.c) / h.sz = h.i := by
                  rw [Nat.mul_comm, Nat.mul_add_div hpos, Nat.div_eq_of_lt hcl]; rfl
                have d2 : (i * h.sz + c) / h.sz = i := by
                  rw [Nat.mul_comm, Nat.mul_add_div hpos, Nat.div_eq_of_lt hc']; rfl
                have e1 : h.i = i := by rw [← d1, q2, d2]
                subst e1
                exact ⟨rfl, by omega⟩
              rw [Array.getElem?_setIfInBounds_ne hne]
              exact h0)
          (by
            intro i r c u h1 h2
            by_cases ki : i = h.i
            · subst ki
              rw [List.getElem?_set_self hil] at h1
              cases h1
              by_cases kc : c = h.c
              · subst kc
                rw [List.getElem?_set_self (by omega)] at h2
                cases h2
                rw [if_pos ⟨rfl, rfl⟩]
                exact hy
              · rw [List.getElem?_set_ne (fun q => kc q.symm)] at h2
                rw [if_neg (fun q => kc q.2)]
                have base := hrec h.i row c u hi h2
                refine base.frame st.lim st.fz (fun b' a' hl k => st.own b' a' hl (CA.under_of_hop k) ?_) (fun a' k => st.hd a' (CA.under_of_hop k) ?_)
                all_goals
                  rintro (q | q)
                  · subst q; exact CA.not_under_hop _ _ k
                  · have e2 := CA.hop_apart k q
                    apply kc
                    have e3 := congrArg Hop.c e2
                    exact e3.symm
            · rw [List.getElem?_set_ne (fun q => ki q.symm)] at h1
              rw [if_neg (fun q => ki q.1)]
              have base := hrec i r c u h1 h2
              refine base.frame st.lim st.fz (fun b' a' hl k => st.own b' a' hl (CA.under_of_hop k) ?_) (fun a' k => st.hd a' (CA.under_of_hop k) ?_)
              all_goals
                rintro (q | q)
                · subst q; exact CA.not_under_hop _ _ k
                · have e2 := CA.hop_apart k q
                  apply ki
                  have e3 := congrArg Hop.i e2
                  exact e3.symm)
        rw [hlen] at key
        exact key
    · rw [if_neg e] at hs; exact absurd hs (by simp)
  | onil => exact absurd hs (by simp [T.sub])
  | fro h => cases h <;> exact absurd hs (by simp [T.sub])

/-- A part of what is represented is represented. -/
theorem Rep.sub {w : World} {g : Gh} {a : CA} {t x : T} {v : Value} {h : Hop} (hr : Rep w g a t v) (hs : t.sub h = some x) :
    ∃ b off n cap cs el u, v = .slice (some ⟨b, off, none⟩) n cap ∧ v = g.hd a ∧ g.ow b = .own a ∧ w.heap[b]? = some (.cells cs el (0, 0)) ∧ h.i < n ∧
      cs[off + h.i * h.sz + h.c]? = some u ∧ Rep w g (a.hop h) x u := by
  cases hr with
  | own vs hd hh ho hsize hcap hlim hrow hcell hrec =>
    rename_i b off cap sz xs cs el
    simp only [T.sub] at hs
    by_cases e : h.sz = sz
    · subst e
      rw [if_pos rfl] at hs
      cases hi : xs[h.i]? with
      | none => rw [hi] at hs; exact absurd hs (by simp)
      | some row =>
        rw [hi] at hs
        simp only [Option.bind_some] at hs
        have hil : h.i < xs.length := by
          rcases Nat.lt_or_ge h.i xs.length with k | k
          · exact k
          · rw [List.getElem?_eq_none k] at hi; exact absurd hi (by simp)
        have hrl : row.length = h.sz := hrow row (List.mem_of_getElem? hi)
        have hcl : h.c < h.sz := by
          rcases Nat.lt_or_ge h.c row.length with k | k
          · omega
          · rw [List.getElem?_eq_none k] at hs; exact absurd hs (by simp)
        exact ⟨b, off, _, cap, cs, el, vs h.i h.c, rfl, hd.symm, ho, hh, hil, hcell _ _ hil hcl, hrec h.i row h.c x hi hs⟩
    · rw [if_neg e] at hs; exact absurd hs (by simp)
  | onil => exact absurd hs (by simp [T.sub])
  | fro h => cases h <;> exact absurd hs (by simp [T.sub])

theorem Rep.at {w : World} {g : Gh} {a : CA} {t x : T} {v : Value} (hr : Rep w g a t v) : ∀ {p : List Hop}, t.at p = some x → ∃ u, Rep w g (a.go p) x u ∧ (p = [] → u = v)
  | [], h => by
    simp only [T.at, Option.some.injEq] at h
    subst h
    exact ⟨v, hr, fun _ => rfl⟩
  | h :: p, hs => by
    simp only [T.at] at hs
    cases hx : t.at p with
    | none => rw [hx] at hs; exact absurd hs (by simp)
    | some y =>
      rw [hx] at hs
      simp only [Option.bind_some] at hs
      obtain ⟨u, ru, _⟩ := Rep.at hr hx
      obtain ⟨b, off, n, cap, cs, el, u2, _, _, _, _, _, _, ry⟩ := ru.sub hs
      exact ⟨u2, ry, fun q => by cases q⟩

/-- What stands at a path is replaced by something else under the same header. -/
theorem Rep.put {w w' : World} {g g' : Gh} {a : CA} {t : T} {v : Value} (hr : Rep w g a t v) : ∀ (p : List Hop) {x y : T}, t.at p = some x →
    Stay w w' g g' a (fun a' => a'.under (a.go p)) → (∀ u, Rep w g (a.go p) x u → Rep w' g' (a.go p) y u) → Rep w' g' a (t.put p y) v
  | [], x, y, h, _, hx => by
    simp only [T.at, Option.some.injEq] at h
    subst h
    exact hx v hr
  | h :: p, x, y, hs, st, hx => by
    simp only [T.at] at hs
    cases hz : t.at p with
    | none => rw [hz] at hs; exact absurd hs (by simp)
    | some z =>
      rw [hz] at hs
      simp only [Option.bind_some] at hs
      simp only [T.put, hz]
      refine Rep.put hr p hz ⟨st.lim, st.fz, fun b a' hl k n => st.own b a' hl k fun q => n (CA.under_of_hop q), fun a' k n => st.hd a' k fun q => n (CA.under_of_hop q)⟩ ?_
      intro u ru
      have hnot : ¬ (a.go p).under (a.go (h :: p)) := CA.not_under_hop _ _
      obtain ⟨b, off, n, cap, cs, el, u2, hv, hvd, ho, hh, hi, hc, ry⟩ := ru.sub hs
      refine Rep.setSub (u' := u2) ru hs ⟨st.lim, st.fz, fun b a' hl k n => st.own b a' hl (CA.under_trans k (CA.under_go _ _)) fun q => n (.inr q), fun a' k n => st.hd a' (CA.under_trans k (CA.under_go _ _)) fun q => n (.inr q)⟩
        (st.hd _ (CA.under_go _ _) hnot) ?_ (hx u2 ry)
      intro b' off' n' cap' cs' el' hv' ho' hh' hlt
      obtain ⟨e1, e2⟩ := st.own b' _ (lt_of_heap hh') (CA.under_go a p) hnot ho'
      refine ⟨e1, e2.trans ?_⟩
      rw [hh']
      rw [hv] at hv'
      cases hv'
      rw [hh] at hh'
      cases hh'
      congr 2
      apply Array.ext_getElem?
      intro i
      by_cases k : off + h.i * h.sz + h.c = i
      · subst k; rw [Array.getElem?_setIfInBounds_self_of_lt hlt, hc]
      · rw [Array.getElem?_setIfInBounds_ne k]
end Vx

namespace Vx
open Go

/-- What a cell of a box, or a slot, holds. -/
inductive C where
  | t (x : T)
  | ref (a : CA)
  | ptr (a : CA)
  | fp (row : List T) (c : Nat)
  | clo (f : Nat) (caps : List C)
  | mp (k : Nat)
  deriving Inhabited
inductive SV where
  | c (x : C)
  | agg (row : List C)
  | tup (vs : List SV)
  deriving Inhabited
def C.isOwn : C → Bool
  | .t (.sl true _ _) => true
  | _ => false
abbrev Dirt := Root → Nat → Bool

/-- The value behind a pointer's abstract address. -/
def PRep (g : Gh) (p : CA) (v : Value) : Prop :=
  match p.path with
  | [] => ∃ k, p.root = .obj k ∧ v = .pointer (some ⟨(g.bl k).1, (g.bl k).2.1 + p.c, none⟩)
  | h :: q => ∃ b off n cap, g.hd { p with path := q } = .slice (some ⟨b, off, none⟩) n cap ∧ v = .pointer (some ⟨b, off + h.i * h.sz + h.c, none⟩)

mutual
def C.roots : C → List Root
  | .t _ => []
  | .ref a => [a.root]
  | .ptr a => [a.root]
  | .fp _ _ => []
  | .clo _ caps => C.rootsL caps
  | .mp k => [.obj k]
def C.rootsL : List C → List Root
  | [] => []
  | x :: l => C.roots x ++ C.rootsL l
end
mutual
def SV.roots : SV → List Root
  | .c x => x.roots
  | .agg row => C.rootsL row
  | .tup l => SV.rootsL l
def SV.rootsL : List SV → List Root
  | [] => []
  | x :: l => SV.roots x ++ SV.rootsL l
end
theorem C.mem_rootsL {l : List C} {r : Root} : r ∈ C.rootsL l ↔ ∃ x ∈ l, r ∈ x.roots := by
  induction l <;> simp_all [C.rootsL]
theorem SV.mem_rootsL {l : List SV} {r : Root} : r ∈ SV.rootsL l ↔ ∃ x ∈ l, r ∈ x.roots := by
  induction l <;> simp_all [SV.rootsL]

inductive CRep (w : World) (g : Gh) (d : Dirt) : CA → C → Value → Prop where
  | t {a x v} (h : Rep w g a x v) : CRep w g d a (.t x) v
  | ref {a p v} (h : d p.root p.c = false → v = g.hd p) (h1 : v.oneCell' = true) : CRep w g d a (.ref p) v
  | ptr {a p v} (h : p.path ≠ [] → d p.root p.c = false → PRep g p v) (h0 : p.path = [] → PRep g p v) (h1 : v.oneCell' = true) : CRep w g d a (.ptr p) v
  | fp {a row c b off cs el fr} (vs : Nat → Value) (hh : w.heap[b]? = some (.cells cs el fr)) (ho : g.ow b = .frozen)
      (hcell : ∀ j, j < row.length → cs[off + j]? = some (vs j)) (hrec : ∀ j x, row[j]? = some x → FRep w g x (vs j)) :
      CRep w g d a (.fp row c) (.pointer (some ⟨b, off + c, none⟩))
  | clo {a f caps} (vs : Nat → Value) (hn : ∀ x ∈ caps, x.isOwn = false) (h : ∀ j x, caps[j]? = some x → CRep w g d a x (vs j)) :
      CRep w g d a (.clo f caps) (.func (.func f) #[] ((List.range caps.length).map vs).toArray)
  | mp {a k v} (h : v = .map (some (g.bl k).1)) : CRep w g d a (.mp k) v

inductive SVRep (w : World) (g : Gh) (d : Dirt) (r : Root) : Nat → SV → Value → Prop where
  | c {n x v} (h : CRep w g d ⟨r, n, []⟩ x v) : SVRep w g d r n (.c x) v
  | agg {n row} (vs : Nat → Value) (h : ∀ j x, row[j]? = some x → CRep w g d ⟨r, n + j, []⟩ x (vs j)) :
      SVRep w g d r n (.agg row) (.agg ((List.range row.length).map vs).toArray)
  | tup {n l} (vs : Nat → Value) (h : ∀ j x, l[j]? = some x → SVRep w g d r (n + 64 * (j + 1)) x (vs j)) :
      SVRep w g d r n (.tup l) (.tuple ((List.range l.length).map vs).toArray)

/-- How the memory and the ghosts change: `S` are the roots that references may name. -/
structure Keeps (w w' : World) (g g' : Gh) (d d' : Dirt) (S : Root → Prop) : Prop where
  lim : g.lim ≤ g'.lim
  fz : ∀ b, b < w.heap.size → g.ow b = .frozen → g'.ow b = .frozen ∧ w'.heap[b]? = w.heap[b]?
  ref : ∀ r c, S r → d' r c = false → d r c = false ∧ ∀ p, g'.hd ⟨r, c, p⟩ = g.hd ⟨r, c, p⟩
  bl : ∀ k, S (.obj k) → g'.bl k = g.bl k

/-- A place `(r, c)` that is not touched. -/
structure Still (w w' : World) (g g' : Gh) (r : Root) (c : Nat) : Prop where
  own : ∀ b p, b < w.heap.size → g.ow b = .own ⟨r, c, p⟩ → g'.ow b = .own ⟨r, c, p⟩ ∧ w'.heap[b]? = w.heap[b]?
  hd : ∀ p, g'.hd ⟨r, c, p⟩ = g.hd ⟨r, c, p⟩

theorem Rep.still {w w' : World} {g g' : Gh} {d d' : Dirt} {S : Root → Prop} {a : CA} {t : T} {v : Value} (h : Rep w g a t v) (k : Keeps w w' g g' d d' S) (s : Still w w' g g' a.root a.c) : Rep w' g' a t v := by
  refine h.frame k.lim k.fz (fun b a' hl hu ho => ?_) (fun a' hu => ?_)
  · obtain ⟨e1, e2, _⟩ := hu
    have : a' = ⟨a.root, a.c, a'.path⟩ := by cases a'; simp_all
    rw [this] at ho ⊢
    exact s.own b _ hl ho
  · obtain ⟨e1, e2, _⟩ := hu
    have : a' = ⟨a.root, a.c, a'.path⟩ := by cases a'; simp_all
    rw [this]
    exact s.hd _

theorem PRep.still {w w' : World} {g g' : Gh} {d d' : Dirt} {S : Root → Prop} {p : CA} {v : Value} (k : Keeps w w' g g' d d' S) (hs : S p.root) (hd : p.path ≠ [] → d' p.root p.c = false) (h : PRep g p v) : PRep g' p v := by
  unfold PRep at *
  split at h
  · rename_i e
    obtain ⟨j, e1, e2⟩ := h
    exact ⟨j, e1, by rw [k.bl j (e1 ▸ hs)]; exact e2⟩
  · rename_i h' q e
    obtain ⟨b, off, n, cap, e1, e2⟩ := h
    obtain ⟨_, k2⟩ := k.ref _ _ hs (hd (by rw [e]; simp))
    exact ⟨b, off, n, cap, (k2 _).trans e1, e2⟩

theorem CRep.still {w w' : World} {g g' : Gh} {d d' : Dirt} {S : Root → Prop} {a : CA} {x : C} {v : Value} (h : CRep w g d a x v) (k : Keeps w w' g g' d d' S) (hS : ∀ r ∈ x.roots, S r)
    (s : Still w w' g g' a.root a.c) : CRep w' g' d' a x v := by
  induction h with
  | t h => exact .t (h.still k s)
  | ref h h1 => exact .ref (fun e => by obtain ⟨k1, k2⟩ := k.ref _ _ (hS _ (by simp [C.roots])) e; rw [h k1]; exact (k2 _).symm) h1
  | @ptr p v h h0 h1 =>
    have hs : S p.root := hS _ (by simp [C.roots])
    exact .ptr (fun e e2 => (h e (k.ref _ _ hs e2).1).still k hs (fun _ => e2)) (fun e => (h0 e).still k hs (fun n => absurd e n)) h1
  | fp vs hh ho hcell hrec =>
    obtain ⟨e1, e2⟩ := k.fz _ (lt_of_heap hh) ho
    exact .fp vs (e2.trans hh) e1 hcell fun j x hj => (hrec j x hj).frame k.lim k.fz
  | clo vs hn h ih => exact .clo vs hn fun j x hj => ih j x hj fun r hr => hS r (by simp only [C.roots]; exact C.mem_rootsL.2 ⟨x, List.mem_of_getElem? hj, hr⟩)
  | mp h => exact .mp (by rw [k.bl _ (hS _ (by simp [C.roots]))]; exact h)

theorem SVRep.still {w w' : World} {g g' : Gh} {d d' : Dirt} {S : Root → Prop} {r : Root} {n : Nat} {x : SV} {v : Value} (h : SVRep w g d r n x v) (k : Keeps w w' g g' d d' S) (hS : ∀ r ∈ x.roots, S r)
    (s : ∀ c, Still w w' g g' r c) : SVRep w' g' d' r n x v := by
  induction h with
  | c h => exact .c (h.still k hS (s _))
  | agg vs h => exact .agg vs fun j x hj => (h j x hj).still k (fun r hr => hS r (by simp only [SV.roots]; exact C.mem_rootsL.2 ⟨x, List.mem_of_getElem? hj, hr⟩)) (s _)
  | tup vs h ih => exact .tup vs fun j x hj => ih j x hj fun r hr => hS r (by simp only [SV.roots]; exact SV.mem_rootsL.2 ⟨x, List.mem_of_getElem? hj, hr⟩)

/-! ## The state -/
inductive Kind where
  | box (m : Nat)
  | virt
structure Sg where
  slot : Nat → SV
  isnew : Nat → Bool
  cell : Nat → Nat → C
  kind : Nat → Option Kind
  mp : Nat → Option (List (T × T))
  dirty : Dirt
def rt (n : Nat) (isnew : Bool) : Root := if isnew then .new n else .slot n
def Sg.rt (σ : Sg) (n : Nat) : Root := Vx.rt n (σ.isnew n)
/-- The roots that references may name. -/
def Sg.ex (σ : Sg) : Root → Prop
  | .slot _ => True
  | .new n => σ.isnew n = true
  | .obj k => k < 100000 ∨ σ.kind k ≠ none ∨ σ.mp k ≠ none
  | .ret => False

structure Env where
  P : Program
  ng : Nat
  h0 : Array Obj

def ObjRep (w : World) (g : Gh) (σ : Sg) (k : Nat) : Kind → Prop
  | .box m => ∃ cs el, w.heap[(g.bl k).1]? = some (.cells cs el (0, 0)) ∧ g.ow (g.bl k).1 = .box k ∧ (g.bl k).2.2 = m ∧ (g.bl k).2.1 + m ≤ cs.size ∧
      ∀ c, c < m → ∃ u, cs[(g.bl k).2.1 + c]? = some u ∧ CRep w g σ.dirty ⟨.obj k, c, []⟩ (σ.cell k c) u
  | .virt => ∃ u, CRep w g σ.dirty ⟨.obj k, 0, []⟩ (σ.cell k 0) u
def MapRep (w : World) (g : Gh) (k : Nat) (es : List (T × T)) : Prop :=
  ∃ (l : List MapEntry) (ck : Nat), w.heap[(g.bl k).1]? = some (.map l.toArray ck) ∧ g.ow (g.bl k).1 = .box k ∧ l.length = es.length ∧
    ∀ (i : Nat) (e : T × T) (x : MapEntry), es[i]? = some e → l[i]? = some x → FRep w g e.1 x.key ∧ FRep w g e.2 x.val

def SV.flat : SV → Bool
  | .tup l => l.all fun x => match x with | .tup _ => false | .agg row => decide (row.length ≤ 64) | _ => true
  | _ => true
structure Core (E : Env) (σ : Sg) (tmps : Array Value) (w : World) (g : Gh) : Prop where
  slots : ∀ n, SVRep w g σ.dirty (σ.rt n) 0 (σ.slot n) (tmps.getD n undef)
  flat : ∀ n, (σ.slot n).flat = true
  liveS : ∀ n, ∀ r ∈ (σ.slot n).roots, σ.ex r
  liveC : ∀ k c, ∀ r ∈ (σ.cell k c).roots, σ.ex r
  objs : ∀ k kd, σ.kind k = some kd → ObjRep w g σ k kd
  maps : ∀ k es, σ.mp k = some es → MapRep w g k es
  glob : ∀ b, b < E.ng → g.ow b = .other ∧ w.heap[b]? = E.h0[b]?
  size : E.ng ≤ w.heap.size

/-- What a run may change, seen from its beginning: nothing that is frozen or another's; of the boxes that were handed in (numbers below 1000) their cells alone. -/
structure Move (w : World) (g : Gh) (w' : World) (g' : Gh) : Prop where
  size : w.heap.size ≤ w'.heap.size
  lim : g'.lim = g.lim
  keep : ∀ b, b < w.heap.size → g.ow b = .frozen ∨ g.ow b = .other → g'.ow b = g.ow b ∧ w'.heap[b]? = w.heap[b]?
  bl : ∀ k, k < 1000 → g'.bl k = g.bl k
  box : ∀ b k, b < w.heap.size → k < 1000 → g.ow b = .box k → g'.ow b = .box k ∧
    ∀ cs el fr, w.heap[b]? = some (.cells cs el fr) → ∃ cs', w'.heap[b]? = some (.cells cs' el fr) ∧ cs'.size = cs.size ∧
      ∀ i, (i < (g.bl k).2.1 ∨ (g.bl k).2.1 + (g.bl k).2.2 ≤ i) → cs'[i]? = cs[i]?
  env : w'.os = w.os ∧ w'.tape = w.tape ∧ w'.output = w.output
  vhd : ∀ k c p, k < 1000 → (g.bl k).2.2 = 0 → g'.hd ⟨.obj k, c, p⟩ = g.hd ⟨.obj k, c, p⟩
theorem Move.refl (w : World) (g : Gh) : Move w g w g :=
  ⟨Nat.le_refl _, rfl, fun _ _ _ => ⟨rfl, rfl⟩, fun _ _ => rfl, fun _ _ _ _ h => ⟨h, fun cs _ _ hh => ⟨cs, hh, rfl, fun _ _ => rfl⟩⟩, ⟨rfl, rfl, rfl⟩, fun _ _ _ _ _ => rfl⟩
theorem Move.trans {w w1 w2 : World} {g g1 g2 : Gh} (h : Move w g w1 g1) (k : Move w1 g1 w2 g2) : Move w g w2 g2 := by
  refine ⟨Nat.le_trans h.size k.size, k.lim.trans h.lim, fun b hb ho => ?_, fun j hj => (k.bl j hj).trans (h.bl j hj), fun b j hb hj ho => ?_, ⟨k.env.1.trans h.env.1, k.env.2.1.trans h.env.2.1, k.env.2.2.trans h.env.2.2⟩,
    fun j c p hj hz => (k.vhd j c p hj (by rw [h.bl j hj]; exact hz)).trans (h.vhd j c p hj hz)⟩
  · obtain ⟨e1, e2⟩ := h.keep b hb ho
    obtain ⟨f1, f2⟩ := k.keep b (Nat.lt_of_lt_of_le hb h.size) (by rw [e1]; exact ho)
    exact ⟨f1.trans e1, f2.trans e2⟩
  · obtain ⟨e1, e2⟩ := h.box b j hb hj ho
    obtain ⟨f1, f2⟩ := k.box b j (Nat.lt_of_lt_of_le hb h.size) hj e1
    refine ⟨f1, fun cs el fr hh => ?_⟩
    obtain ⟨cs1, a1, a2, a3⟩ := e2 cs el fr hh
    obtain ⟨cs2, b1, b2, b3⟩ := f2 cs1 el fr a1
    refine ⟨cs2, b1, b2.trans a2, fun i hi => ?_⟩
    rw [b3 i (by rw [h.bl j hj]; exact hi), a3 i hi]
end Vx

namespace Vx
open Go

/-! ## Reading the state -/
inductive Loc where
  | slot (n : Nat)
  | cell (k c : Nat)
  | kind (k : Nat)
  | mp (k : Nat)
  deriving DecidableEq
inductive Rd (α : Type) where
  | ret (a : α)
  | slot (n : Nat) (f : SV → Bool → (Nat → Bool) → Rd α)
  | cell (k c : Nat) (f : C → Bool → Rd α)
  | kind (k : Nat) (f : Option Kind → Rd α)
  | mp (k : Nat) (f : Option (List (T × T)) → Rd α)

def Rd.run {α : Type} (σ : Sg) : Rd α → α
  | .ret a => a
  | .slot n f => (f (σ.slot n) (σ.isnew n) (σ.dirty (σ.rt n))).run σ
  | .cell k c f => (f (σ.cell k c) (σ.dirty (.obj k) c)).run σ
  | .kind k f => (f (σ.kind k)).run σ
  | .mp k f => (f (σ.mp k)).run σ
def Rd.log {α : Type} (σ : Sg) : Rd α → List Loc
  | .ret _ => []
  | .slot n f => .slot n :: (f (σ.slot n) (σ.isnew n) (σ.dirty (σ.rt n))).log σ
  | .cell k c f => .cell k c :: (f (σ.cell k c) (σ.dirty (.obj k) c)).log σ
  | .kind k f => .kind k :: (f (σ.kind k)).log σ
  | .mp k f => .mp k :: (f (σ.mp k)).log σ

inductive Upd where
  | slot (n : Nat) (x : SV)          -- written anew
  | hole (r : Root) (c : Nat)        -- its content has moved away
  | set (r : Root) (c : Nat) (t : T) -- other content for a place
  | dirtS (n c : Nat)
  | cell (k c : Nat) (x : C)
  | dirtC (k c : Nat)
  | box (k : Nat) (row : List C)
  | mp (k : Nat) (es : List (T × T))

/-- The cells of a slot's value; those of a tuple's parts from 64, 128, .. on. -/
def SV.cellAt : SV → Nat → Option C
  | .c x, j => if j = 0 then some x else none
  | .agg row, j => row[j]?
  | .tup l, j => match l[j / 64 - 1]? with
    | some (.c x) => if j % 64 = 0 ∧ 64 ≤ j then some x else none
    | some (.agg row) => if 64 ≤ j then row[j % 64]? else none
    | _ => none
def SV.setAt : SV → Nat → C → SV
  | .c _, _, x => .c x
  | .agg row, j, x => .agg (row.set j x)
  | .tup l, j, x => match l[j / 64 - 1]? with
    | some (.c _) => .tup (l.set (j / 64 - 1) (.c x))
    | some (.agg row) => .tup (l.set (j / 64 - 1) (.agg (row.set (j % 64) x)))
    | _ => .tup l

def rootLoc : Root → Nat → List Loc
  | .slot n, _ | .new n, _ => [.slot n]
  | .obj k, c => [.cell k c]
  | .ret, _ => []
def Upd.locs : Upd → List Loc
  | .slot n _ | .dirtS n _ => [.slot n]
  | .hole r c | .set r c _ => rootLoc r c
  | .cell k c _ | .dirtC k c => [.cell k c]
  | .box k _ => [.kind k]
  | .mp k _ => [.mp k]

/-- What else its effect depends on. -/
def rootDep : Root → List Loc
  | .obj k => [.kind k]
  | _ => []
def Upd.deps : Upd → List Loc
  | .hole r _ | .set r _ _ => rootDep r
  | .cell k _ _ => [.kind k]
  | _ => []
/-- Who writes `w` writes `l`. -/
def Loc.covers (w l : Loc) : Bool := w == l || match w, l with | .kind k, .cell j _ => k == j | _, _ => false
def inrK : Option Kind → Nat → Bool
  | some (.box m), c => decide (c < m)
  | some .virt, c => c == 0
  | none, _ => false
def Sg.inr (σ : Sg) (k c : Nat) : Bool := inrK (σ.kind k) c
def Sg.setP (σ : Sg) (r : Root) (c : Nat) (x : C) : Sg :=
  match r with
  | .slot n | .new n => { σ with slot := fun m => if m = n then (σ.slot n).setAt c x else σ.slot m }
  | .obj k => { σ with cell := fun i j => if i = k ∧ j = c ∧ σ.inr k c = true then x else σ.cell i j }
  | .ret => σ
def Sg.upd (σ : Sg) : Upd → Sg
  | .slot n x => { σ with slot := fun m => if m = n then x else σ.slot m, isnew := fun m => if m = n then true else σ.isnew m }
  | .hole r c => σ.setP r c (.t .top)
  | .set r c t => σ.setP r c (.t t)
  | .dirtS n c => { σ with dirty := fun r j => if r = σ.rt n ∧ j = c then true else σ.dirty r j }
  | .cell k c x => σ.setP (.obj k) c x
  | .dirtC k c => { σ with dirty := fun r j => if r = .obj k ∧ j = c then true else σ.dirty r j }
  | .box k row => { σ with kind := fun i => if i = k then some (.box row.length) else σ.kind i, cell := fun i j => if i = k then row.getD j (.t .top) else σ.cell i j }
  | .mp k es => { σ with mp := fun i => if i = k then some es else σ.mp i }
def Sg.upds (σ : Sg) (us : List Upd) : Sg := us.foldl Sg.upd σ

structure Eff where
  ok : Prop
  upd : List Upd
def fail : Rd Eff := .ret ⟨False, []⟩

/-! ## Types -/
/-- Of what kind a map's keys are. -/
inductive KK where
  | str
  | int (k : IntKind)
/-- A map from strings or integers to integers. -/
def mapT (P : Program) (t : TypeId) : Option (KK × IntKind) :=
  match P.underlying t with
  | some (.map k e) => match P.underlying k, P.info? e with
    | some .string, some { zero := some (.int ik 0), .. } => some (.str, ik)
    | some (.int j), some { zero := some (.int ik 0), .. } => some (.int j, ik)
    | _, _ => none
  | _ => none
inductive TK where
  | str
  | bool
  | int (k : IntKind)
  | other
structure TI where
  kd : TK
  agg : Bool
  size : Nat
  bytes : Nat
  zero : List T
  fld : List (Nat × Nat)     -- offset and size of each field
  elem : Option TypeId
  mpt : Option (KK × IntKind)

def T.ofV : Value → T
  | .int k n => .int k n
  | .bool b => .bool b
  | .string s => .str s
  | .slice none 0 0 => .nil
  | v => .val v
def SV.ofV : Value → SV
  | .agg cs => .agg (cs.toList.map fun v => .t (T.ofV v))
  | v => .c (.t (T.ofV v))
def smallC : Value → Bool
  | .string s => decide (s.size ≤ 65536)
  | _ => true
def tinfo (P : Program) (t : TypeId) : Option TI :=
  match P.info? t, P.underlying t with
  | some i, some d => some {
      kd := match d with | .string => .str | .bool => .bool | .int k => .int k | _ => .other
      agg := match d with | .struct _ => true | .array .. => true | _ => false
      size := i.size
      bytes := i.bytes
      zero := match i.zero with | some v => if v.cells.all smallC then v.cells.toList.map T.ofV else [] | none => []
      fld := match d with | .struct fs => fs.toList.map (fun f => (f.offset, match P.info? f.type with | some i => i.size | none => 0)) | _ => []
      elem := match d with | .slice e => some e | _ => none
      mpt := mapT P t }
  | _, _ => none

/-! ## Helpers -/
def C.alias (a : CA) : C → C
  | .t (.sl true _ _) => .ref a
  | x => x
def aliasFrom (r : Root) : Nat → List C → List C
  | _, [] => []
  | j, x :: l => x.alias ⟨r, j, []⟩ :: aliasFrom r (j + 1) l
def SV.alias1 (r : Root) (n : Nat) : SV → SV
  | .c x => .c (x.alias ⟨r, n, []⟩)
  | .agg row => .agg (aliasFrom r n row)
  | s => s
def aliasTup (r : Root) : Nat → List SV → List SV
  | _, [] => []
  | n, x :: l => x.alias1 r n :: aliasTup r (n + 64) l
def SV.alias (r : Root) : SV → SV
  | .tup l => .tup (aliasTup r 64 l)
  | x => x.alias1 r 0
def SV.hasOwn : SV → Bool
  | .c x => x.isOwn
  | .agg row => row.any C.isOwn
  | .tup _ => true


/-- The content of a place. -/
def place (r : Root) (c : Nat) (f : T → Rd Eff) : Rd Eff :=
  match r with
  | .slot n => .slot n fun sv nw d => if nw || d c then fail else match sv.cellAt c with | some (.t t) => f t | _ => fail
  | .new n => .slot n fun sv nw d => if !nw || d c then fail else match sv.cellAt c with | some (.t t) => f t | _ => fail
  | .obj k => .kind k fun kd => if inrK kd c then .cell k c fun x d => if d then fail else match x with | .t t => f t | _ => fail else fail
  | .ret => fail
def deref (a : CA) (f : T → T → Rd Eff) : Rd Eff :=
  place a.root a.c fun t => match t.at a.path with | some x => f t x | none => fail

def rdS (x : Operand) (f : SV → Rd Eff) : Rd Eff :=
  match x with
  | .tmp n => .slot n fun sv nw _ => f (sv.alias (rt n nw))
  | .const v => f (SV.ofV v)
  | .func g => f (.c (.clo g []))
  | .global _ => fail
def rdT (x : Operand) (f : T → Rd Eff) : Rd Eff := rdS x fun sv => match sv with | .c (.t t) => f t | _ => fail

def T.isOwn : T → Bool
  | .sl true _ _ => true
  | _ => false

/-- What is owned by a slot that was written in this region moves on; the rest stays as it is. -/
def moveC (x : C) (f : C → List Upd → Rd Eff) : Rd Eff :=
  match x with
  | .ref ⟨.new m, c, []⟩ => place (.new m) c fun t => if t.isOwn then f (.t t) [.hole (.new m) c] else fail
  | x => f x []
def moveL : List C → (List C → List Upd → Rd Eff) → Rd Eff
  | [], f => f [] []
  | x :: l, f => moveC x fun y us => moveL l fun ys vs => f (y :: ys) (us ++ vs)
def SV.row : SV → Option (List C)
  | .c x => some [x]
  | .agg row => some row
  | .tup _ => none
def C.one : C → Bool
  | .t .top => false
  | .t (.val v) => v.oneCell'
  | _ => true
def T.one : T → Bool
  | .top => false
  | .val v => v.oneCell'
  | _ => true
/-- The cells of an operand. -/
def rdRow (x : Operand) (f : List C → Rd Eff) : Rd Eff :=
  rdS x fun sv => match sv with
    | .c y => if y.one then f [y] else fail
    | .agg row => f row
    | .tup _ => fail
/-- The cells of an operand, moved. -/
def moveS (x : Operand) (f : List C → List Upd → Rd Eff) : Rd Eff := rdRow x fun row => moveL row f
/-- A cell's content becomes a datum: what a reference to a whole place names moves, a part of a slice is frozen. -/
def takeC (x : C) (f : T → List Upd → Rd Eff) : Rd Eff :=
  match x with
  | .t t => f t []
  | .ref ⟨r, c, []⟩ => place r c fun t => if t.isOwn then f t [.hole r c] else fail
  | _ => fail
def takeL : List C → (List T → List Upd → Rd Eff) → Rd Eff
  | [], f => f [] []
  | x :: l, f => takeC x fun t us => takeL l fun ts vs => f (t :: ts) (us ++ vs)
/-- The data of an operand, moved out of it. -/
def takeS (x : Operand) (f : List T → List Upd → Rd Eff) : Rd Eff := rdRow x fun row => takeL row f

inductive Key where
  | slot (n : Nat)
  | place (r : Root) (c : Nat)
  | kind (k : Nat)
  | mp (k : Nat)
  deriving DecidableEq
def Upd.key : Upd → List Key
  | .slot n _ => [.slot n]
  | .hole r c | .set r c _ => [.place r c]
  | .cell k c _ => [.place (.obj k) c]
  | .box k _ => [.kind k]
  | .mp k _ => [.mp k]
  | .dirtS .. | .dirtC .. => []
def keysOf : List Upd → List Key
  | [] => []
  | u :: us => u.key ++ keysOf us
def distinct : List Key → Bool
  | [] => true
  | x :: l => !l.contains x && distinct l
def finish (ok : Prop) (us : List Upd) : Rd Eff := if distinct (keysOf us) then .ret ⟨ok, us⟩ else fail
def put (o : Oper) (x : SV) (us : List Upd) (ok : Prop) : Rd Eff :=
  match o.dst with
  | some d => .slot d fun _ nw _ => if nw then fail else finish ok (us ++ [.slot d x])
  | none => finish ok us

def LIM : Nat := 2 ^ 38

def isStrT (P : Program) (t : TypeId) : Bool := match tinfo P t with | some { kd := .str, .. } => true | _ => false
def isBoolT (P : Program) (t : TypeId) : Bool := match tinfo P t with | some { kd := .bool, .. } => true | _ => false
def isSlT (P : Program) (t : TypeId) : Bool := match tinfo P t with | some { elem := some _, .. } => true | _ => false
def binT (P : Program) (xt : TypeId) (op : BinOp) (x y : T) : Option T :=
  match op, x, y with
  | .add, .int k a, .int j b => if k = j then some (.int k (k.wrap (a + b))) else none
  | .sub, .int k a, .int j b => if k = j then some (.int k (k.wrap (a - b))) else none
  | .mul, .int k a, .int j b => if k = j then some (.int k (k.wrap (a * b))) else none
  | .eql, .int k a, .int j b => if k = j then some (.bool (decide (a = b))) else none
  | .neq, .int k a, .int j b => if k = j then some (.bool (decide (a ≠ b))) else none
  | .lss, .int k a, .int j b => if k = j then some (.bool (decide (a < b))) else none
  | .leq, .int k a, .int j b => if k = j then some (.bool (decide (a ≤ b))) else none
  | .gtr, .int k a, .int j b => if k = j then some (.bool (decide (b < a))) else none
  | .geq, .int k a, .int j b => if k = j then some (.bool (decide (b ≤ a))) else none
  | .eql, .str a, .str b => some (.bool (decide (a = b)))
  | .neq, .str a, .str b => some (.bool (decide (a ≠ b)))
  | .quo, .int k a, .int j b => if k = j ∧ b ≠ 0 then some (.int k (k.wrap (a.tdiv b))) else none
  | .rem, .int k a, .int j b => if k = j ∧ b ≠ 0 then some (.int k (a.tmod b)) else none
  | .add, .str a, .str b => if a.size + b.size ≤ LIM then some (.str (a ++ b)) else none
  | .lss, .str a, .str b => some (.bool (Op.bytesLess a.toList b.toList))
  | .leq, .str a, .str b => some (.bool (Op.bytesLess a.toList b.toList || a.toList == b.toList))
  | .gtr, .str a, .str b => some (.bool (!(Op.bytesLess a.toList b.toList || a.toList == b.toList)))
  | .geq, .str a, .str b => some (.bool (!Op.bytesLess a.toList b.toList))
  | .eql, .nil, .nil => if isSlT P xt then some (.bool true) else none
  | .neq, .nil, .nil => if isSlT P xt then some (.bool false) else none
  | .eql, .sl false _ xs, .nil => if isSlT P xt then some (.may (xs = []) True) else none
  | .neq, .sl false _ xs, .nil => if isSlT P xt then some (.may True (xs = [])) else none
  | .eql, .bool a, .bool b => if isBoolT P xt then some (.bool (a == b)) else none
  | .neq, .bool a, .bool b => if isBoolT P xt then some (.bool (a != b)) else none
  | _, _, _ => none

def readCells (k : Nat) : Nat → Nat → (List C → Rd Eff) → Rd Eff
  | _, 0, f => f []
  | c, n + 1, f => .cell k c fun x _ => readCells k (c + 1) n fun l => f (x.alias ⟨.obj k, c, []⟩ :: l)
def atCells (t : T) (h : Hop) (p : List Hop) : Nat → Option (List T)
  | 0 => some []
  | n + 1 => (t.at (h :: p)).bind fun x => (atCells t { h with c := h.c + 1 } p n).map (x :: ·)
def putCells (t : T) (h : Hop) (p : List Hop) : List T → T
  | [] => t
  | x :: l => putCells (t.put (h :: p) x) { h with c := h.c + 1 } p l
def aliasHop (a : CA) (h : Hop) : List T → List C
  | [] => []
  | x :: l => (C.t x).alias { a with path := h :: a.path } :: aliasHop a { h with c := h.c + 1 } l

/-! ## One operation -/
def stepLoad (P : Program) (o : Oper) (t : TypeId) (p : Operand) : Rd Eff :=
  match tinfo P t with
  | none => fail
  | some i => rdS p fun sv => match sv with
    | .c (.fp row c) =>
      if i.agg then put o (.agg (((row.drop c).take i.size).map C.t)) [] (c + i.size ≤ row.length)
      else match row[c]? with | some x => put o (.c (.t x)) [] (i.size = 1) | none => fail
    | .c (.ptr ⟨.obj k, c, []⟩) => .kind k fun kd => match kd with
      | some (.box m) =>
        if i.agg then readCells k c i.size fun l => put o (.agg l) [] (c + i.size ≤ m)
        else .cell k c fun x _ => put o (.c (x.alias ⟨.obj k, c, []⟩)) [] (c < m ∧ i.size = 1)
      | _ => fail
    | .c (.ptr ⟨r, c, h :: q⟩) => place r c fun t =>
      if i.agg then match atCells t h q i.size with
        | some l => put o (.agg (aliasHop ⟨r, c, q⟩ h l)) [] True
        | none => fail
      else match t.at (h :: q) with
        | some x => put o (.c ((C.t x).alias ⟨r, c, h :: q⟩)) [] (i.size = 1)
        | none => fail
    | _ => fail

def storeCells' (k : Nat) : Nat → List C → List Upd
  | _, [] => []
  | c, x :: l => .cell k c x :: ((if x.isOwn then [.dirtC k c] else []) ++ storeCells' k (c + 1) l)
def dirtP : Root → Nat → List Upd
  | .slot n, c | .new n, c => [.dirtS n c]
  | .obj k, c => [.dirtC k c]
  | .ret, _ => []
abbrev undefS : SV := .c (.t (.val undef))
/-- Nothing that is owned goes into a slice that is lent. -/
def storeOK (r : Root) (ow : Bool) (f : Rd Eff) : Rd Eff :=
  if ow then match r with
    | .obj k => if k < 1000 then .kind k fun kd => match kd with | some (.box _) => f | _ => fail else f
    | _ => f
  else f
def stepStore (P : Program) (o : Oper) (t : TypeId) (p v : Operand) : Rd Eff :=
  match tinfo P t with
  | none => fail
  | some i => rdS p fun sv => match sv with
    | .c (.ptr ⟨.obj k, c, []⟩) => .kind k fun kd => match kd with
      | some (.box m) => moveS v fun row us => put o undefS (us ++ storeCells' k c row) (row.length = i.size ∧ c + i.size ≤ m ∧ row.all C.one = true)
      | _ => fail
    | .c (.ptr ⟨r, c, h :: q⟩) => takeS v fun ts us => place r c fun t => match atCells t h q ts.length with
        | some _ => storeOK r (ts.any T.isOwn) (put o undefS (us ++ [.set r c (putCells t h q ts)] ++ (if ts.any T.isOwn then dirtP r c else [])) (ts.length = i.size ∧ 0 < i.size ∧ ts.all T.one = true))
        | none => fail
    | _ => fail

def takeParts : List (Nat × Operand) → (List (Nat × List T) → List Upd → Rd Eff) → Rd Eff
  | [], f => f [] []
  | (i, x) :: r, f => takeS x fun ts us => takeParts r fun ps vs => f ((i, ts) :: ps) (us ++ vs)
def rdParts : List (Nat × Operand) → (List (Nat × List C) → Rd Eff) → Rd Eff
  | [], f => f []
  | (i, x) :: r, f => rdRow x fun row => rdParts r fun ps => f ((i, row) :: ps)
def buildRow (fld : List (Nat × Nat)) (row : List C) : List (Nat × List C) → Option (List C)
  | [] => some row
  | (i, xs) :: r => match fld[i]? with
    | some (off, n) => if xs.length = n ∧ 0 < n ∧ off + n ≤ row.length then buildRow fld (row.take off ++ xs ++ row.drop (off + xs.length)) r else none
    | none => none
def denseRows (sz : Nat) : Nat → List (Nat × List T) → Option (List (List T))
  | _, [] => some []
  | k, (i, ts) :: r => if i = k ∧ ts.length = sz then (denseRows sz (k + 1) r).map (ts :: ·) else none

/-- Rows without slices: a copy of their cells is all. -/
def T.flat1 : T → Bool
  | .int _ _ => true
  | .bool _ => true
  | .str _ => true
  | _ => false
def oneR (xs : List (List T)) : Bool := xs.all (·.all T.one)
def flatR (xs : List (List T)) : Bool := xs.all (·.all T.flat1)
/-- What is appended. -/
def appY (sz : Nat) (sy : SV) (f : List (List T) → List Upd → Rd Eff) : Rd Eff :=
  match sy with
  | .c (.ref ⟨.new m, c, []⟩) => place (.new m) c fun t => match t with
    | .sl true s ys => if s = sz ∧ oneR ys = true then f ys [.hole (.new m) c] else fail
    | _ => fail
  | .c (.ref a) => deref a fun _ t => match t with
    | .sl true s ys => if s = sz ∧ flatR ys = true then f ys [] else fail
    | _ => fail
  | .c (.t (.sl false s ys)) => if s = sz ∧ oneR ys = true then f ys [] else fail
  | .c (.t .nil) => f [] []
  | _ => fail
/-- To what it is appended. -/
def appX (sz : Nat) (sx : SV) (f : List (List T) → List Upd → Rd Eff) : Rd Eff :=
  match sx with
  | .c (.t .nil) => f [] []
  | .c (.ref a) => deref a fun t z => match z with
    | .sl true s xs => if s = sz then f xs [.set a.root a.c (t.put a.path .top)] else fail
    | _ => fail
  | _ => fail
def stepAppend (P : Program) (o : Oper) (sT : TypeId) (x y : Operand) : Rd Eff :=
  match tinfo P sT with
  | some { elem := some e, .. } => match tinfo P e with
    | some ei => if 0 < ei.size ∧ ei.bytes ≤ 256 ∧ ei.zero.length = ei.size then
        rdS x fun sx => rdS y fun sy => appX ei.size sx fun xs us => appY ei.size sy fun ys vs =>
          if xs.length + ys.length ≤ LIM ∧ o.dst.isSome = true then put o (.c (.t (.sl true ei.size (xs ++ ys)))) (us ++ vs) True else fail
      else fail
    | none => fail
  | _ => fail
def stepBuildSlice (P : Program) (o : Oper) (t : TypeId) (n : Nat) (parts : List (Nat × Operand)) : Rd Eff :=
  match tinfo P t with
  | some { elem := some e, .. } => match tinfo P e with
    | some ei => takeParts parts fun ps us => match denseRows ei.size 0 ps with
      | some rows => put o (.c (.t (.sl true ei.size rows))) us (rows.length = n ∧ n * ei.size ≤ 2 ^ 24 ∧ 0 < ei.size ∧ ei.zero.length = ei.size)
      | none => fail
    | none => fail
  | _ => fail

def lenT (s : Bool) : T → Option Nat
  | .nil => if s then none else some 0
  | .sl _ _ xs => if s then none else some xs.length
  | .str b => if s then some b.size else none
  | _ => none
def stepLen (P : Program) (o : Oper) (t : TypeId) (x : Operand) : Rd Eff :=
  if isStrT P t || isSlT P t then rdS x fun sv => match sv with
    | .c (.t y) => match lenT (isStrT P t) y with | some n => put o (.c (.t (.int .i64 n))) [] True | none => fail
    | .c (.ref a) => deref a fun _ y => match y with | .sl true _ xs => if isStrT P t then fail else put o (.c (.t (.int .i64 xs.length))) [] True | _ => fail
    | _ => fail
  else fail
def stepIndex (P : Program) (o : Oper) (t : TypeId) (x i : Operand) : Rd Eff :=
  match tinfo P t with
  | some { elem := some e, .. } => match tinfo P e with
    | some ei => rdS x fun sv => rdT i fun ti => match ti with
      | .int _ i => match sv with
        | .c (.t (.sl false sz xs)) => if sz = ei.size then match xs[i.toNat]? with | some row => put o (.c (.fp row 0)) [] (0 ≤ i) | none => fail else fail
        | .c (.ref a) => deref a fun _ t => match t with
          | .sl true sz xs => if sz = ei.size then match xs[i.toNat]? with | some _ => put o (.c (.ptr ⟨a.root, a.c, ⟨i.toNat, sz, 0⟩ :: a.path⟩)) [] (0 ≤ i) | none => fail else fail
          | _ => fail
        | _ => fail
      | _ => fail
    | none => fail
  | _ => fail

/-- The bounds of a part. -/
def optT (x : Option Operand) (f : Option T → Rd Eff) : Rd Eff :=
  match x with
  | none => f none
  | some x => rdT x fun t => f (some t)
def boundT (d : Nat) : Option T → Option Int
  | none => some d
  | some (.int _ n) => some n
  | _ => none
def intT (P : Program) (t : TypeId) : Option IntKind := match tinfo P t with | some { kd := .int k, .. } => some k | _ => none
def byteAt (s : ByteArray) (i : Int) : Option Int := if 0 ≤ i then (s[i.toNat]?).map fun b => (b.toNat : Int) else none
def rowByte : List T → Option Int
  | [.int .u8 n] => some n
  | _ => none
def bytesX (xs : List (List T)) : Option ByteArray := (xs.mapM rowByte).map fun ns => ns.foldl (fun r n => r.push (UInt8.ofNat n.toNat)) ByteArray.empty
def isBytesT (P : Program) (t : TypeId) : Bool := match tinfo P t with | some { elem := some e, .. } => (match tinfo P e with | some { kd := .int .u8, size := 1, .. } => true | _ => false) | _ => false
def cutStr (s : ByteArray) (l h : Int) : Option ByteArray := if 0 ≤ l ∧ l ≤ h ∧ h ≤ s.size then some (s.extract l.toNat h.toNat) else none
def cutRows (xs : List (List T)) (l h : Int) : Option (List (List T)) := if 0 ≤ l ∧ l ≤ h ∧ h ≤ xs.length then some ((xs.take h.toNat).drop l.toNat) else none
/-! ## Maps -/
def keyEq : T → T → Bool
  | .str a, .str b => decide (a = b)
  | .int j a, .int k b => decide (j = k) && decide (a = b)
  | _, _ => false
def mapFind : List (T × T) → T → Option T
  | [], _ => none
  | e :: l, k => if keyEq k e.1 then some e.2 else mapFind l k
def mapGet (es : List (T × T)) (k : T) : Int := match mapFind es k with | some (.int _ n) => n | _ => 0
def mapHas (es : List (T × T)) (k : T) : Bool := (mapFind es k).isSome
def mapSet : List (T × T) → T → T → List (T × T)
  | [], k, v => [(k, v)]
  | e :: l, k, v => if keyEq k e.1 then (e.1, v) :: l else e :: mapSet l k v
def KK.ok : KK → T → Bool
  | .str, .str _ => true
  | .int k, .int j _ => decide (k = j)
  | _, _ => false
def mapOK (kk : KK) (ik : IntKind) (es : List (T × T)) : Bool := es.all fun e => kk.ok e.1 && (match e.2 with | .int k _ => decide (k = ik) | _ => false)
def stepLookup (P : Program) (o : Oper) (t : TypeId) (m k : Operand) (ok : Bool) : Rd Eff :=
  match mapT P t with
  | some (kk, ik) => rdS m fun sv => rdT k fun kt => match sv with
    | .c (.mp i) => .mp i fun es => match es with
      | some es => if mapOK kk ik es && kk.ok kt then put o (if ok then .tup [.c (.t (.int ik (mapGet es kt))), .c (.t (.bool (mapHas es kt)))] else .c (.t (.int ik (mapGet es kt)))) [] True else fail
      | none => fail
    | _ => fail
  | none => fail
def stepMapUpdate (P : Program) (o : Oper) (t : TypeId) (m k v : Operand) : Rd Eff :=
  match mapT P t with
  | some (kk, ik) => rdS m fun sv => rdT k fun kt => rdT v fun vt => match sv with
    | .c (.mp i) => .mp i fun es => match es with
      | some es => if mapOK kk ik es && kk.ok kt && mapOK kk ik [(kt, vt)] then put o undefS [.mp i (mapSet es kt vt)] True else fail
      | none => fail
    | _ => fail
  | none => fail
/-- A part of a slice that is owned: it moves; from its beginning on it is owned, else it is frozen. -/
def stepSliceR (P : Program) (o : Oper) (t : TypeId) (x : Operand) (lo hi : Option Operand) : Rd Eff :=
  match tinfo P t with
  | some { elem := some e, .. } => match tinfo P e with
    | some ei => rdS x fun sv => optT lo fun l => optT hi fun h => match sv with
      | .c (.ref ⟨r, c, []⟩) => place r c fun y => match y with
        | .sl true sz xs => match boundT 0 l, boundT xs.length h with
          | some l0, some h0 => match cutRows xs l0 h0 with
            | some ys => if sz = ei.size then (match l with
              | none => put o (.c (.t (.sl true sz ys))) [.hole r c] True
              | some _ => put o (.c (.t (.sl false sz (T.viewR ys)))) [.hole r c] True) else fail
            | none => fail
          | _, _ => fail
        | _ => fail
      | _ => fail
    | none => fail
  | _ => fail
/-- Captured values: nothing that is owned. -/
def capsT : List Operand → (List C → Rd Eff) → Rd Eff
  | [], f => f []
  | x :: r, f => rdS x fun sv => match sv with
    | .c y => if y.one then capsT r fun l => f (y :: l) else fail
    | _ => fail
def stepSliceT (P : Program) (o : Oper) (t : TypeId) (x : Operand) (lo hi : Option Operand) : Rd Eff :=
  rdT x fun a => optT lo fun l => optT hi fun h => match a with
    | .nil => match tinfo P t with
      | some { elem := some e, .. } => match tinfo P e with
        | some _ => match boundT 0 l, boundT 0 h with
          | some l, some h => if l = 0 ∧ h = 0 then put o (.c (.t .nil)) [] True else fail
          | _, _ => fail
        | none => fail
      | _ => fail
    | .str s => match boundT 0 l, boundT s.size h with
      | some l, some h => match cutStr s l h with | some u => put o (.c (.t (.str u))) [] (isStrT P t = true) | none => fail
      | _, _ => fail
    | .sl false sz xs => match tinfo P t with
      | some { elem := some e, .. } => match tinfo P e with
        | some ei => match boundT 0 l, boundT xs.length h with
          | some l, some h => match cutRows xs l h with | some ys => put o (.c (.t (.sl false sz ys))) [] (sz = ei.size) | none => fail
          | _, _ => fail
        | none => fail
      | _ => fail
    | _ => fail
def astep (P : Program) (o : Oper) : Rd Eff :=
  match o.op with
  | .index t x i => if isStrT P t then rdT x fun a => rdT i fun b => match a, b with
      | .str s, .int _ n => match byteAt s n with | some v => put o (.c (.t (.int .u8 v))) [] True | none => fail
      | _, _ => fail
    else fail
  | .convert src dst x => match intT P dst with
    | some k => rdT x fun a => match a with | .int _ n => put o (.c (.t (.int k (k.wrap n)))) [] ((tinfo P src).isSome = true) | _ => fail
    | none => if isStrT P dst then (if isBytesT P src then rdS x fun sv => match sv with
        | .c (.t (.sl false 1 xs)) => match bytesX xs with | some b => put o (.c (.t (.str b))) [] True | none => fail
        | .c (.ref a) => deref a fun _ y => match y with
          | .sl true 1 xs => match bytesX xs with | some b => put o (.c (.t (.str b))) [] True | none => fail
          | _ => fail
        | _ => fail
      else rdT x fun a => match a with | .str s => put o (.c (.t (.str s))) [] (isStrT P src = true) | _ => fail) else fail
  | .slice t x lo hi none => rdS x fun sv => match sv with | .c (.ref _) => stepSliceR P o t x lo hi | _ => stepSliceT P o t x lo hi
  | .makeMap _ none => match o.dst with
    | some d => .kind (100000 + d) fun kd => .mp (100000 + d) fun m => match kd, m with
      | none, none => put o (.c (.mp (100000 + d))) [.mp (100000 + d) []] True
      | _, _ => fail
    | none => fail
  | .lookup t m k ok => stepLookup P o t m k ok
  | .mapUpdate t m k v => stepMapUpdate P o t m k v
  | .call { callee := .builtin .cap, args, argTypes } => match args.toList, argTypes.toList with
    | [x], [t] => rdT x fun a => match a with | .nil => put o (.c (.t (.int .i64 0))) [] (isSlT P t = true) | _ => fail
    | _, _ => fail
  | .call { callee := .builtin .max, args, .. } => match args.toList with
    | [x, y] => rdT x fun a => rdT y fun b => match a, b with | .int k a, .int _ b => put o (.c (.t (.int k (if b > a then b else a)))) [] True | _, _ => fail
    | _ => fail
  | .call { callee := .builtin .min, args, .. } => match args.toList with
    | [x, y] => rdT x fun a => rdT y fun b => match a, b with | .int k a, .int _ b => put o (.c (.t (.int k (if b < a then b else a)))) [] True | _, _ => fail
    | _ => fail
  | .makeFunc (.func g) first caps => if first.isEmpty then capsT caps.toList fun l => put o (.c (.clo g l)) [] True else fail
  | .move x => rdS x fun sv => put o sv [] (sv.flat = true)
  | .assign x => rdS x fun sv => match sv with
    | .c x => moveL [x] fun l us => match l with | [y] => put o (.c y) us True | _ => fail
    | .agg row => moveL row fun l us => put o (.agg l) us True
    | .tup _ => fail
  | .nilCheck x => rdS x fun sv => match sv with
    | .c (.ptr ⟨r, c, []⟩) => put o (.c (.ptr ⟨r, c, []⟩)) [] True
    | .c (.ptr ⟨r, c, h :: q⟩) => place r c fun _ => put o (.c (.ptr ⟨r, c, h :: q⟩)) [] True
    | .c (.fp r c) => put o (.c (.fp r c)) [] True
    | _ => fail
  | .binOp op xt x y _ => rdT x fun a => rdT y fun b => match binT P xt op a b with | some t => put o (.c (.t t)) [] True | none => fail
  | .unOp .not _ x => rdT x fun a => match a with | .bool b => put o (.c (.t (.bool !b))) [] True | _ => fail
  | .unOp .neg _ x => rdT x fun a => match a with | .int k n => put o (.c (.t (.int k (k.wrap (-n))))) [] True | _ => fail
  | .fieldAddr s x f => match tinfo P s with
    | some i => match i.fld[f]? with
      | some (off, _ + 1) => rdS x fun sv => match sv with
        | .c (.fp row c) => put o (.c (.fp row (c + off))) [] True
        | .c (.ptr ⟨r, c, []⟩) => put o (.c (.ptr ⟨r, c + off, []⟩)) [] True
        | .c (.ptr ⟨r, c, h :: q⟩) => place r c fun _ => put o (.c (.ptr ⟨r, c, { h with c := h.c + off } :: q⟩)) [] True
        | _ => fail
      | _ => fail
    | none => fail
  | .indexAddr t x i => stepIndex P o t x i
  | .load t p => stepLoad P o t p
  | .store t p v => stepStore P o t p v
  | .alloc t => match o.dst, tinfo P t with
    | some d, some i => .kind (100000 + d) fun kd => .mp (100000 + d) fun m => match kd, m with
      | none, none => put o (.c (.ptr ⟨.obj (100000 + d), 0, []⟩)) [.box (100000 + d) (i.zero.map C.t)] (i.zero.length = i.size ∧ 0 < i.size)
      | _, _ => fail
    | _, _ => fail
  | .box t x => match o.dst, tinfo P t with
    | some d, some i => .kind (100000 + d) fun kd => .mp (100000 + d) fun m => match kd, m with
      | none, none => moveS x fun row us => put o (.c (.ptr ⟨.obj (100000 + d), 0, []⟩)) (us ++ [.box (100000 + d) row]) (i.size = row.length)
      | _, _ => fail
    | _, _ => fail
  | .build t parts => match tinfo P t with
    | some i => rdParts parts.toList fun ps => match buildRow i.fld (i.zero.map C.t) ps with
      | some row => put o (.agg row) [] (i.fld.isEmpty = false ∧ i.fld.all (fun p => decide (0 < p.2)) = true ∧ i.zero.length = i.size ∧ 0 < i.size)
      | none => fail
    | none => fail
  | .makeSlice t l c => match tinfo P t with
    | some { elem := some e, .. } => match tinfo P e with
      | some ei => rdT l fun a => rdT c fun b => match a, b with
        | .int _ n, .int _ m => put o (.c (.t (.sl true ei.size (List.replicate n.toNat ei.zero)))) [] (0 ≤ n ∧ n = m ∧ n ≤ (LIM : Nat) ∧ ei.bytes ≤ 256 ∧ 0 < ei.size ∧ ei.zero.length = ei.size)
        | _, _ => fail
      | none => fail
    | _ => fail
  | .extract x i => rdS x fun sv => match sv with
    | .tup l => match l[i]? with
      | some x => put o x [] (x.row.isSome = true)
      | none => fail
    | _ => fail
  | .call { callee := .builtin .len, args, argTypes } => match args.toList, argTypes.toList with | [x], [t] => stepLen P o t x | _, _ => fail
  | .call { callee := .builtin .append, args, argTypes } => match args.toList, argTypes.toList with | [x, y], [t, u] => if t = u then stepAppend P o t x y else fail | _, _ => fail
  | .buildSlice t n parts => stepBuildSlice P o t n parts.toList
  | _ => fail

end Vx

namespace Vx
open Go

/-! ## Calls -/
def lk {α : Type} (n : Nat) : List (Nat × α) → Option α
  | [] => none
  | (m, x) :: l => if n = m then some x else lk n l
/-- What is handed in by pointer: a box, an owned slice behind a header, a map. -/
inductive AR where
  | box (row : List C)
  | virt (x : T)
  | map (es : List (T × T))
  | mbox (row : List C)
  | mmap (es : List (T × T))
  deriving Inhabited
/-- Where the caller has it. -/
inductive AS where
  | obj (k : Nat)
  | place (a : CA)
  | map (k : Nat)
  deriving Inhabited

def AS.isObj (k : Nat) : AS → Bool
  | .obj j => j = k
  | _ => false
def AS.isPlace (a : CA) : AS → Bool
  | .place b => b = a
  | _ => false
def AS.isMap (k : Nat) : AS → Bool
  | .map j => j = k
  | _ => false

/-- Is a part of the place `(r, c)` handed in? -/
def AS.touches (r : Root) (c : Nat) : AS → Bool
  | .obj k => r = .obj k
  | .place a => a.root = r ∧ a.c = c
  | .map _ => false
def AS.apart : AS → AS → Bool
  | .obj k, .obj j => k ≠ j
  | .obj k, .place a => a.root ≠ .obj k
  | .place a, .obj k => a.root ≠ .obj k
  | .place a, .place b => ¬ (a.root = b.root ∧ a.c = b.c)
  | .map k, .map j => k ≠ j
  | _, _ => true
def AS.allApart : List AS → Bool
  | [] => true
  | x :: l => l.all x.apart && allApart l
mutual
/-- A cell as the callee sees it; `cl`: nothing that is owned is lent for reading. -/
def passC (amb : List AS) (x : C) (f : C → Prop → Bool → Rd Eff) : Rd Eff :=
  match x with
  | .t y => f (.t y) True true
  | .ref a => match amb.findIdx? (AS.isPlace a) with
    | some j => f (.ref ⟨.obj j, 0, []⟩) True true
    | none => if amb.any (AS.touches a.root a.c) then fail else deref a fun _ y => if y.isOwn then f (.t y.view) True false else fail
  | .ptr ⟨.obj k, c, []⟩ => match amb.findIdx? (AS.isObj k) with
    | some j => f (.ptr ⟨.obj j, c, []⟩) True true
    | none => fail
  | .mp k => match amb.findIdx? (AS.isMap k) with
    | some j => f (.mp j) True true
    | none => fail
  | .clo g caps => passL amb caps fun l p cl => f (.clo g l) p cl
  | .fp row c => f (.fp row c) True true
  | _ => fail
def passL (amb : List AS) (l : List C) (f : List C → Prop → Bool → Rd Eff) : Rd Eff :=
  match l with
  | [] => f [] True true
  | x :: l => passC amb x fun y p c1 => passL amb l fun ys q c2 => f (y :: ys) (p ∧ q) (c1 && c2)
end
/-- The operands of a call as the callee sees them. -/
def passArgs (amb : List AS) : List Operand → (List SV → Prop → Bool → Rd Eff) → Rd Eff
  | [], f => f [] True true
  | x :: r, f =>
    let go (sv : SV) : Rd Eff := match sv with
      | .c y => passC amb y fun z p c1 => passArgs amb r fun l q c2 => f (.c z :: l) (p ∧ q) (c1 && c2)
      | .agg row => passL amb row fun zs p c1 => passArgs amb r fun l q c2 => f (.agg zs :: l) (p ∧ q) (c1 && c2)
      | .tup _ => fail
    rdS x go
def C.noFz : C → Bool
  | .t x => x.noFz
  | _ => false
def SV.noFz : SV → Bool
  | .c x => x.noFz
  | .agg row => row.all C.noFz
  | .tup l => l.all fun x => match x with | .c x => x.noFz | .agg row => row.all C.noFz | .tup _ => false
def AR.noFz : AR → Bool
  | .box row => row.all C.noFz
  | .virt x => x.noFz
  | .mbox row => row.all C.noFz
  | .map es | .mmap es => es.all fun e => e.1.noFz && e.2.noFz

def C.data : C → Bool
  | .t _ => true
  | _ => false
def SV.data : SV → Bool
  | .c x => x.data
  | .agg row => row.all C.data
  | .tup l => l.all fun x => match x with | .c x => x.data | .agg row => row.all C.data && decide (row.length ≤ 64) | .tup _ => false
/-- What the callee is known to return. -/
abbrev Rel := Nat → List SV → List AR → SV → List AR → Prop

structure Ans where
  res : SV
  out : List AR
  am : List Nat := []
  mv : List (Nat × CA) := []
  deriving Inhabited

def stepCall0 (R : Rel) (o : Oper) (g : Nat) (args : List Operand) (an : Ans) : Rd Eff :=
  passArgs [] args fun fa p cl => put o an.res [] (an.res.data = true ∧ R g fa [] an.res [] ∧ p ∧ (cl = true ∨ an.res.noFz = true))

/-! ### Calls that write into the slices that they are lent -/
def lendC (x : C) (j : Nat) (f : C → List CA → Rd Eff) : Rd Eff :=
  match x with
  | .t y => f (.t y) []
  | .ref a => f (.ref ⟨.obj j, 0, []⟩) [a]
  | .fp row c => f (.fp row c) []
  | _ => fail
def lendL : List C → Nat → (List C → List CA → Rd Eff) → Rd Eff
  | [], _, f => f [] []
  | x :: l, j, f => lendC x j fun y as => lendL l (j + as.length) fun ys bs => f (y :: ys) (as ++ bs)
def lendArgs : List Operand → Nat → (List SV → List CA → Rd Eff) → Rd Eff
  | [], _, f => f [] []
  | x :: r, j, f => rdS x fun sv => match sv with
    | .c y => lendC y j fun z as => lendArgs r (j + as.length) fun l bs => f (.c z :: l) (as ++ bs)
    | .agg row => lendL row j fun zs as => lendArgs r (j + as.length) fun l bs => f (.agg zs :: l) (as ++ bs)
    | .tup _ => fail
/-- What is lent, and what comes back. -/
def lendAt : List CA → List AR → (List AR → List Upd → Rd Eff) → Rd Eff
  | [], [], f => f [] []
  | a :: as, .virt z :: out, f => deref a fun t y => if y.isOwn && z.isOwn then lendAt as out fun rs us => f (.virt y :: rs) (.set a.root a.c (t.put a.path z) :: us) else fail
  | _, _, _ => fail
def stepCallM (R : Rel) (o : Oper) (g : Nat) (args : List Operand) (an : Ans) : Rd Eff :=
  lendArgs args 0 fun fa as => lendAt as an.out fun rs us => if o.dst.isSome && decide (as.length ≤ 1000) then put o an.res us (an.res.data = true ∧ R g fa rs an.res an.out) else fail
/-! ### Calls that are lent boxes and maps, and that are given slices -/
def idxK (k : Nat) : Nat → List Nat → Option Nat
  | _, [] => none
  | j, i :: l => if k = i then some j else idxK k (j + 1) l
mutual
/-- What a lent box holds, and what is captured, as the callee sees it. -/
def mapC (am : List Nat) : C → Option C
  | .t y => some (.t y)
  | .ptr ⟨.obj k, c, []⟩ => match idxK k 0 am with | some j => some (.ptr ⟨.obj j, c, []⟩) | none => none
  | .mp k => match idxK k 0 am with | some j => some (.mp j) | none => none
  | .clo g caps => match mapCs am caps with | some l => some (.clo g l) | none => none
  | .fp row c => some (.fp row c)
  | _ => none
def mapCs (am : List Nat) : List C → Option (List C)
  | [] => some []
  | x :: l => match mapC am x, mapCs am l with | some y, some m => some (y :: m) | _, _ => none
end
def lentR (am : List Nat) : Root → Bool
  | .obj k => (idxK k 0 am).isSome
  | _ => false
def badOf (mv : List (Nat × CA)) : List (Root × Nat) := mv.map fun p => (p.2.root, p.2.c)
def passG (am : List Nat) (bad : List (Root × Nat)) (x : C) (f : C → Bool → Rd Eff) : Rd Eff :=
  match x with
  | .ref a => if bad.contains (a.root, a.c) || lentR am a.root then fail else deref a fun _ y => if y.isOwn then f (.t y.view) false else fail
  | x => match mapC am x with | some z => f z true | none => fail
def passGL (am : List Nat) (bad : List (Root × Nat)) : List C → (List C → Bool → Rd Eff) → Rd Eff
  | [], f => f [] true
  | x :: l, f => passG am bad x fun z c1 => passGL am bad l fun zs c2 => f (z :: zs) (c1 && c2)
def passGA (am : List Nat) (mv : List (Nat × CA)) : Nat → List Operand → (List SV → Bool → List Upd → Rd Eff) → Rd Eff
  | _, [], f => f [] true []
  | i, x :: r, f => rdS x fun sv => match lk i mv with
    | some a => match sv with
      | .c (.ref b) => if b = a ∧ lentR am a.root = false then place a.root a.c fun t => match t.at a.path with
          | some y => if y.isOwn then passGA am mv (i + 1) r fun l cl us => f (.c (.t y) :: l) cl (.set a.root a.c (t.put a.path .top) :: us) else fail
          | none => fail
        else fail
      | _ => fail
    | none => match sv with
      | .c y => passG am (badOf mv) y fun z c1 => passGA am mv (i + 1) r fun l c2 us => f (.c z :: l) (c1 && c2) us
      | .agg row => passGL am (badOf mv) row fun zs c1 => passGA am mv (i + 1) r fun l c2 us => f (.agg zs :: l) (c1 && c2) us
      | .tup _ => fail
def readRow (k : Nat) : Nat → Nat → (List C → Rd Eff) → Rd Eff
  | _, 0, f => f []
  | c, n + 1, f => .cell k c fun x _ => readRow k (c + 1) n fun l => f (x :: l)
def lendG (am : List Nat) : List Nat → (List AR → Rd Eff) → Rd Eff
  | [], f => f []
  | k :: r, f => .kind k fun kd => .mp k fun m => match kd, m with
    | some (.box n), none => readRow k 0 n fun row => match mapCs am row with
      | some zs => lendG am r fun rs => f (.box zs :: rs)
      | none => fail
    | none, some es => lendG am r fun rs => f (.map es :: rs)
    | _, _ => fail
def unC (am : List Nat) : C → Option C
  | .t y => some (.t y)
  | .mp j => match am[j]? with | some k => some (.mp k) | none => none
  | _ => none
def unCs (am : List Nat) : List C → Option (List C)
  | [] => some []
  | x :: l => match unC am x, unCs am l with | some y, some m => some (y :: m) | _, _ => none
def cellsU (k : Nat) : Nat → List C → List Upd
  | _, [] => []
  | c, x :: l => .cell k c x :: .dirtC k c :: cellsU k (c + 1) l
def backG (am : List Nat) : List Nat → List AR → (List Upd → Option AR → Rd Eff) → Rd Eff
  | [], [], f => f [] none
  | [], [.mbox row], f => f [] (some (.mbox row))
  | [], [.mmap es], f => f [] (some (.mmap es))
  | k :: r, .box zs :: out, f => .kind k fun kd => match kd, unCs am zs with
    | some (.box n), some row => if row.length = n then backG am r out fun us md => f (cellsU k 0 row ++ us) md else fail
    | _, _ => fail
  | k :: r, .map es :: out, f => .mp k fun m => match m with
    | some _ => backG am r out fun us md => f (.mp k es :: us) md
    | none => fail
  | _, _, _ => fail
/-- The key of what a function has made and hands out. -/
abbrev MADE : Nat := 50000
def putG (o : Oper) (res : SV) (md : Option AR) (us : List Upd) (ok : Prop) : Rd Eff :=
  match md with
  | none => if res.data then put o res us ok else fail
  | some (.mmap es) => match o.dst with
    | some d => match res with
      | .c (.mp k) => if k = MADE then .kind (100000 + d) fun kd => .mp (100000 + d) fun m => match kd, m with
          | none, none => put o (.c (.mp (100000 + d))) (us ++ [.mp (100000 + d) es]) ok
          | _, _ => fail
        else fail
      | _ => fail
    | none => fail
  | some (.mbox row) => match o.dst with
    | some d => match res with
      | .c (.ptr ⟨.obj k, 0, []⟩) => if k = MADE ∧ row.all C.data = true then .kind (100000 + d) fun kd => .mp (100000 + d) fun m => match kd, m with
          | none, none => put o (.c (.ptr ⟨.obj (100000 + d), 0, []⟩)) (us ++ [.box (100000 + d) row]) ok
          | _, _ => fail
        else fail
      | _ => fail
    | none => fail
  | _ => fail
def nodup : List Nat → Bool
  | [] => true
  | x :: l => !l.contains x && nodup l
def stepCallG (R : Rel) (o : Oper) (g : Nat) (args : List Operand) (caps : List C) (an : Ans) : Rd Eff :=
  if nodup an.am && decide (an.am.length ≤ 1000) then
    passGA an.am an.mv 0 args fun fa cl us => match mapCs an.am caps with
      | some cs => lendG an.am an.am fun rs => backG an.am an.am an.out fun vs md =>
          putG o an.res md (us ++ vs) (R g (fa ++ cs.map SV.c) rs an.res an.out ∧ (cl = true ∨ (an.res.noFz = true ∧ an.out.all AR.noFz = true)))
      | none => fail
  else fail
def stepCall (R : Rel) (o : Oper) (g : Nat) (args : List Operand) (an : Ans) : Rd Eff :=
  match an.am, an.mv, an.out with
  | [], [], [] => stepCall0 R o g args an
  | [], [], .virt _ :: _ => stepCallM R o g args an
  | _, _, _ => stepCallG R o g args [] an

def stepCallV (R : Rel) (o : Oper) (n : Nat) (args : List Operand) (an : Ans) : Rd Eff :=
  .slot n fun sv _ _ => match sv with
    | .c (.clo g caps) => match an.am, an.mv, an.out with
      | [], [], [] => passArgs [] args fun fa p c1 => passL [] caps fun cs q c2 => put o an.res [] (an.res.data = true ∧ R g (fa ++ cs.map SV.c) [] an.res [] ∧ (p ∧ q) ∧ ((c1 && c2) = true ∨ an.res.noFz = true))
      | _, _, _ => stepCallG R o g args caps an
    | _ => fail

/-! ## The state as a list -/
structure St where
  sl : List (Nat × SV)
  nw : List Nat
  ob : List (Nat × List C)
  vi : List (Nat × C)
  mp : List (Nat × List (T × T))
  di : List (Root × Nat)
def seta {α : Type} (n : Nat) (x : α) : List (Nat × α) → List (Nat × α)
  | [] => [(n, x)]
  | (m, y) :: l => if n = m then (n, x) :: l else (m, y) :: seta n x l
def St.slot (s : St) (n : Nat) : SV := (lk n s.sl).getD (.c (.t .top))
def St.isnew (s : St) (n : Nat) : Bool := s.nw.contains n
def St.cell (s : St) (k c : Nat) : C := match lk k s.ob with
  | some row => row.getD c (.t .top)
  | none => match lk k s.vi with | some x => if c = 0 then x else .t .top | none => .t .top
def St.kind (s : St) (k : Nat) : Option Kind := match lk k s.ob with
  | some row => some (.box row.length)
  | none => match lk k s.vi with | some _ => some .virt | none => none
def St.map (s : St) (k : Nat) : Option (List (T × T)) := lk k s.mp
def St.dirty (s : St) (r : Root) (c : Nat) : Bool := s.di.contains (r, c)
def St.sg (s : St) : Sg := ⟨s.slot, s.isnew, s.cell, s.kind, s.map, s.dirty⟩
def St.setP (s : St) (r : Root) (c : Nat) (x : C) : St :=
  match r with
  | .slot n | .new n => { s with sl := seta n ((s.slot n).setAt c x) s.sl }
  | .obj k => match lk k s.ob with
    | some row => { s with ob := seta k (row.set c x) s.ob }
    | none => if c = 0 ∧ (lk k s.vi).isSome = true then { s with vi := seta k x s.vi } else s
  | .ret => s
def St.upd (s : St) : Upd → St
  | .slot n x => { s with sl := seta n x s.sl, nw := n :: s.nw }
  | .hole r c => s.setP r c (.t .top)
  | .set r c t => s.setP r c (.t t)
  | .dirtS n c => { s with di := (rt n (s.isnew n), c) :: s.di }
  | .cell k c x => s.setP (.obj k) c x
  | .dirtC k c => { s with di := (.obj k, c) :: s.di }
  | .box k row => { s with ob := seta k row s.ob }
  | .mp k es => { s with mp := seta k es s.mp }
def St.upds : St → List Upd → St
  | s, [] => s
  | s, u :: us => (s.upd u).upds us

def Rd.go {α : Type} (s : St) : Rd α → List Loc → (α → List Loc → Prop) → Prop
  | .ret a, lg, K => K a lg
  | .slot n f, lg, K => (f (s.slot n) (s.isnew n) (s.dirty (rt n (s.isnew n)))).go s (.slot n :: lg) K
  | .cell k c f, lg, K => (f (s.cell k c) (s.dirty (.obj k) c)).go s (.cell k c :: lg) K
  | .kind k f, lg, K => (f (s.kind k)).go s (.kind k :: lg) K
  | .mp k f, lg, K => (f (s.map k)).go s (.mp k :: lg) K

abbrev Kont := St → List (List Loc × List Loc) → Prop
def wlocs : List Upd → List Loc
  | [] => []
  | u :: us => u.locs ++ wlocs us
def dlocs : List Upd → List Loc
  | [] => []
  | u :: us => u.deps ++ dlocs us

def fin (s : St) (l : List (List Loc × List Loc)) (K : Kont) (e : Eff) (lg : List Loc) : Prop := e.ok ∧ K (s.upds e.upd) ((dlocs e.upd ++ lg, wlocs e.upd) :: l)
def skipOp (o : Oper) : Rd Eff := put o undefS [] True
/-- One operation. -/
def aop1 (P : Program) (R : Rel) (o : Oper) (s : St) (lg : List Loc) (l : List (List Loc × List Loc)) (K : Kont) : Prop :=
  match o.op with
  | .pick (.tmp c) a b => match s.slot c with
    | .c (.t (.bool t)) => (t = true → (rdS a fun sv => put o sv [] (sv.row.isSome = true)).go s (.slot c :: lg) (fin s l K)) ∧ (t = false → (rdS b fun sv => put o sv [] (sv.row.isSome = true)).go s (.slot c :: lg) (fin s l K))
    | _ => False
  | .call { callee := .value (.func g), args, .. } => ∃ an, (stepCall R o g args.toList an).go s lg (fin s l K)
  | .call { callee := .value (.tmp n), args, .. } => ∃ an, (stepCallV R o n args.toList an).go s lg (fin s l K)
  | _ => (astep P o).go s lg (fin s l K)
def aop (P : Program) (R : Rel) (ops : List Oper) (o : Oper) (s : St) (l : List (List Loc × List Loc)) (K : Kont) : Prop :=
  match o.guard with
  | none => aop1 P R o s [] l K
  | some (j, want) => match (ops[j]?).bind (·.dst) with
    | some d => match s.slot d with
      | .c (.t (.bool b)) => (b = want → aop1 P R o s [.slot d] l K) ∧ (b = !want → (skipOp o).go s [.slot d] (fin s l K))
      | .c (.t (.val (.tuple _))) => (skipOp o).go s [.slot d] (fin s l K)
      | _ => False
    | none => False
def aops (P : Program) (R : Rel) (ops : List Oper) : List Oper → St → List (List Loc × List Loc) → Kont → Prop
  | [], s, l, K => K s l
  | o :: r, s, l, K => aop P R ops o s l fun s l => aops P R ops r s l K

/-! ## The end of a region -/
def isNewOf (nw : List Nat) : Root → Bool
  | .slot n => nw.contains n
  | _ => false
/-- New keys, from 100000 on, become old ones, from 1000 on. `nb`: the keys that they take. -/
def movedK (nb : List Nat) (k : Nat) : Bool := decide (100000 ≤ k) && nb.contains (k - 99000)
def keyK (nb : List Nat) (k : Nat) : Nat := if movedK nb k then k - 99000 else k
def deadK (nb : List Nat) (k : Nat) : Bool := nb.contains k && !movedK nb k
def deadR (nb : List Nat) : Root → Bool
  | .obj k => deadK nb k
  | _ => false
def fixR (nb : List Nat) : Root → Root
  | .new n => .slot n
  | .obj k => .obj (keyK nb k)
  | r => r
def fixA (nb : List Nat) (a : CA) : CA := { a with root := fixR nb a.root }
def okCap (nb : List Nat) : C → Bool
  | .t _ => true
  | .ptr ⟨.obj k, _, []⟩ => !deadK nb k
  | _ => false
def fixCap (nb : List Nat) : C → C
  | .ptr a => .ptr (fixA nb a)
  | x => x
/-- References that lie are dropped, new roots become old ones. -/
def fixC (nw : List Nat) (nb : List Nat) (di : List (Root × Nat)) : C → C
  | .t x => .t x
  | .ref a => if isNewOf nw a.root || di.contains (a.root, a.c) || deadR nb a.root then .t .top else .ref (fixA nb a)
  | .ptr a => if isNewOf nw a.root || (!a.path.isEmpty && di.contains (a.root, a.c)) || deadR nb a.root then .t .top else .ptr (fixA nb a)
  | .fp r c => .fp r c
  | .clo f caps => if caps.all (okCap nb) then .clo f (caps.map (fixCap nb)) else .t .top
  | .mp k => if deadK nb k then .t .top else .mp (keyK nb k)
def fixSV1 (nw nb : List Nat) (di : List (Root × Nat)) : SV → SV
  | .c x => .c (fixC nw nb di x)
  | .agg row => .agg (row.map (fixC nw nb di))
  | .tup _ => .c (.t .top)
def fixSV (nw nb : List Nat) (di : List (Root × Nat)) : SV → SV
  | .tup l => .tup (l.map (fixSV1 nw nb di))
  | x => fixSV1 nw nb di x
def newKeys {α : Type} : List (Nat × α) → List Nat
  | [] => []
  | (k, _) :: l => if 100000 ≤ k then (k - 99000) :: newKeys l else newKeys l
def fixSl (keep nw nb : List Nat) (di : List (Root × Nat)) : List (Nat × SV) → List (Nat × SV)
  | [] => []
  | (n, x) :: l => if keep.contains n then (n, fixSV nw nb di x) :: fixSl keep nw nb di l else fixSl keep nw nb di l
def fixOb (nw nb : List Nat) (di : List (Root × Nat)) : List (Nat × List C) → List (Nat × List C)
  | [] => []
  | (k, row) :: l => if deadK nb k then fixOb nw nb di l else (keyK nb k, row.map (fixC nw nb di)) :: fixOb nw nb di l
def fixVi (nw nb : List Nat) (di : List (Root × Nat)) : List (Nat × C) → List (Nat × C)
  | [] => []
  | (k, x) :: l => if nb.contains k || movedK nb k then fixVi nw nb di l else (k, fixC nw nb di x) :: fixVi nw nb di l
def fixMp (nb : List Nat) : List (Nat × List (T × T)) → List (Nat × List (T × T))
  | [] => []
  | (k, es) :: l => if deadK nb k then fixMp nb l else (keyK nb k, es) :: fixMp nb l
def St.fix (s : St) (keep : List Nat) : St :=
  let nb := newKeys s.ob ++ newKeys s.mp
  { sl := fixSl keep s.nw nb s.di s.sl, nw := [], ob := fixOb s.nw nb s.di s.ob, vi := fixVi s.nw nb s.di s.vi, mp := fixMp nb s.mp, di := [] }

/-- What a place turns into at the end of a region: nil into an owned slice or a frozen one; what is owned is frozen; what another place owns moves here. -/
inductive GA where
  | own (z : Nat)
  | fnil (z : Nat)
  | frz
  | take
def St.cellP (s : St) : Root → Nat → Option C
  | .slot n, c | .new n, c => (s.slot n).cellAt c
  | .obj k, c => if decide (1000 ≤ k) && inrK (s.kind k) c then some (s.cell k c) else none
  | .ret, _ => none
/-- The root as it is in this state. -/
def St.rtOf (s : St) : Root → Root
  | .slot n | .new n => rt n (s.isnew n)
  | r => r
def St.dirt (s : St) (r : Root) (c : Nat) : St := { s with di := (r, c) :: s.di }
def St.ga (s : St) (r : Root) (c : Nat) (a : GA) : St :=
  match s.cellP r c, a with
  | some (.t .nil), .own z => (s.setP r c (.t (.sl true z []))).dirt r c
  | some (.t .nil), .fnil z => s.setP r c (.t (.sl false z []))
  | some (.t (.sl true z xs)), .frz => s.setP r c (.t (.sl false z (T.viewR xs)))
  | some (.ref ⟨q, d, []⟩), .take => if (q == r && d == c) || s.dirty q d || s.rtOf q != q then s else match s.cellP q d with
    | some (.t (.sl true z xs)) => (((s.setP q d (.t .top)).setP r c (.t (.sl true z xs))).dirt r c).dirt q d
    | _ => s
  | _, _ => s
/-- Keys: the region's number, the place, what it turns into. -/
abbrev Kp := List Nat × List (Nat × Root × Nat × GA)
def St.weak (id : Nat) : St → List (Nat × Root × Nat × GA) → St
  | s, [] => s
  | s, (i, r, c, a) :: l => if i = id then (s.ga (s.rtOf r) c a).weak id l else s.weak id l

/-! ## Orders -/
def afterB (ops : List Oper) : Nat → Nat → Nat → Bool
  | 0, _, _ => false
  | f + 1, j, i => match ops[j]? with
    | some o => o.after.toList.any fun e => Region.binds .any e && (e.on == i || afterB ops f e.on i)
    | none => false
def meets (a b : List Loc) : Bool := a.any fun w => b.any fun l => w.covers l
def indepFrom (ops : List Oper) (j : Nat) (x : List Loc × List Loc) : Nat → List (List Loc × List Loc) → Bool
  | _, [] => true
  | i, y :: l => (!(meets y.2 x.1 || meets y.2 x.2 || meets x.2 y.2 || meets x.2 y.1) || afterB ops ops.length j i) && indepFrom ops j x (i - 1) l
/-- `l` is the log, the last operation first. -/
def indepAll (ops : List Oper) : List (List Loc × List Loc) → Bool
  | [] => true
  | x :: l => indepFrom ops l.length x (l.length - 1) l && indepAll ops l
def edgesDown : Nat → List Oper → Bool
  | _, [] => true
  | i, o :: r => o.after.toList.all (fun e => !Region.binds .any e || decide (e.on < i)) && edgesDown (i + 1) r
def indep (ops : List Oper) (l : List (List Loc × List Loc)) : Bool := edgesDown 0 ops && indepAll ops l

/-! ## Code -/
inductive AX where
  | normal
  | exit (id : Nat)
  | ret
def onlyOb (ol : List Nat) : List (Nat × List C) → List (Nat × List C)
  | [] => []
  | (k, row) :: l => if ol.contains k || decide (100000 ≤ k) then (k, row) :: onlyOb ol l else onlyOb ol l
def onlyVi (ob : List (Nat × List C)) : List (Nat × C) → List (Nat × C)
  | [] => []
  | (k, x) :: l => if (lk k ob).isNone then (k, x) :: onlyVi ob l else onlyVi ob l
def onlySl (s : St) : List Nat → List (Nat × SV)
  | [] => []
  | n :: l => (n, s.slot n) :: onlySl s l
/-- The state cut down to the slots `kl`, in this order, and the boxes `ol`. -/
def St.only (s : St) (kl ol : List Nat) : St := { s with sl := onlySl s kl, ob := onlyOb ol s.ob, vi := onlyVi s.ob s.vi }
/-- A loop: what holds at each round's head, and a measure. -/
def aloop (body : (AX → St → Prop) → St → Prop) (Q : AX → St → Prop) (s : St) : Prop :=
  ∃ (kl ol : List Nat) (I : Nat → St → Prop), (∃ n, I n (s.only kl ol)) ∧ ∀ n s, I n s → body (fun e s2 => match e with | .normal => ∃ m, m < n ∧ I m (s2.only kl ol) | e => Q e s2) s
def awp (P : Program) (R : Rel) (keep : Kp) : Code → (AX → St → Prop) → St → Prop
  | .skip, Q, s => Q .normal s
  | .region id ops draw, Q, s => aops P R ops.toList ops.toList s [] fun s l => (draw = true → indep ops.toList l = true) ∧ Q .normal ((s.weak id keep.2).fix keep.1)
  | .seq a b, Q, s => awp P R keep a (fun e s => match e with | .normal => awp P R keep b Q s | e => Q e s) s
  | .cond (.tmp c) x y, Q, s => match s.slot c with
    | .c (.t (.bool t)) => (t = true → awp P R keep x Q s) ∧ (t = false → awp P R keep y Q s)
    | .c (.t (.may p q)) => (p → awp P R keep x Q s) ∧ (q → awp P R keep y Q s)
    | _ => False
  | .cond (.const (.bool t)) x y, Q, s => (t = true → awp P R keep x Q s) ∧ (t = false → awp P R keep y Q s)
  | .block id c, Q, s => awp P R keep c (fun e s => match e with | .exit j => if j = id then Q .normal s else Q (.exit j) s | e => Q e s) s
  | .loop c, Q, s => aloop (awp P R keep c) Q s
  | .exit id, Q, s => Q (.exit id) s
  | .ret, Q, s => Q .ret s
  | _, _, _ => False
end Vx

namespace Vx
open Go Classical

/-! ## Renaming the places below `p` to places below `q` -/
noncomputable def reb (p q a : CA) : CA := ⟨q.root, q.c, a.path.take (a.path.length - p.path.length) ++ q.path⟩
theorem reb_app {p q a : CA} {s : List Hop} (h : a.path = s ++ p.path) : reb p q a = ⟨q.root, q.c, s ++ q.path⟩ := by
  unfold reb
  rw [h]
  simp
theorem reb_self (p q : CA) : reb p q p = q := by
  rw [reb_app (s := []) rfl]
  rfl
theorem reb_under (p q a : CA) : (reb p q a).under q := ⟨rfl, rfl, _, rfl⟩
theorem reb_reb {p q a : CA} (h : a.under p) : reb q p (reb p q a) = a := by
  obtain ⟨h1, h2, s, h3⟩ := h
  rw [reb_app (q := q) h3, reb_app (s := s) rfl]
  cases a
  simp_all
theorem reb_hop {p q a : CA} (h : a.under p) (x : Hop) : reb p q (a.hop x) = (reb p q a).hop x := by
  obtain ⟨_, _, s, h3⟩ := h
  rw [reb_app (q := q) h3, reb_app (s := x :: s) (by simp [CA.hop, h3])]
  rfl
noncomputable def Gh.reg (g : Gh) (p q : CA) : Gh :=
  { g with
    ow := fun b => match g.ow b with
      | .own a => if a.under p then .own (reb p q a) else if a.under q then .other else .own a
      | t => t
    hd := fun a => if a.under q then g.hd (reb q p a) else g.hd a }

theorem Rep.reg {w : World} {g : Gh} {p q : CA} {t : T} {v : Value} (h : Rep w g p t v) : Rep w (g.reg p q) q t v := by
  have := Rep.map (w' := w) (g' := g.reg p q) (reb p q) h (Nat.le_refl _) (fun a' ha s => reb_hop ha s)
    (fun b _ hb => ⟨by simp [Gh.reg, hb], rfl⟩) (fun b a' _ ha hb => ⟨by simp [Gh.reg, hb, ha], rfl⟩)
    (fun a' ha => by
      show (if (reb p q a').under q then g.hd (reb q p (reb p q a')) else g.hd (reb p q a')) = g.hd a'
      rw [if_pos (reb_under _ _ _), reb_reb ha])
  rw [reb_self] at this
  exact this

theorem not_under_of_ne {a p : CA} (h : ¬ (a.root = p.root ∧ a.c = p.c)) : ¬ a.under p := fun ⟨h1, h2, _⟩ => h ⟨h1, h2⟩
theorem Gh.reg_still (w : World) (g : Gh) (p q : CA) {r : Root} {c : Nat} (hp : ¬ (r = p.root ∧ c = p.c)) (hq : ¬ (r = q.root ∧ c = q.c)) : Still w w g (g.reg p q) r c := by
  refine ⟨fun b s _ ho => ⟨?_, rfl⟩, fun s => ?_⟩
  · simp only [Gh.reg, ho]
    rw [if_neg (not_under_of_ne (a := ⟨r, c, s⟩) hp), if_neg (not_under_of_ne (a := ⟨r, c, s⟩) hq)]
  · show (if _ then _ else _) = _
    rw [if_neg (not_under_of_ne (a := ⟨r, c, s⟩) hq)]
theorem Gh.reg_fz (g : Gh) (p q : CA) {b : Nat} (h : g.ow b = .frozen) : (g.reg p q).ow b = .frozen := by simp [Gh.reg, h]
theorem Gh.reg_other (g : Gh) (p q : CA) {b : Nat} (h : g.ow b = .other) : (g.reg p q).ow b = .other := by simp [Gh.reg, h]
theorem Gh.reg_box (g : Gh) (p q : CA) {b k : Nat} (h : g.ow b = .box k) : (g.reg p q).ow b = .box k := by simp [Gh.reg, h]
theorem Gh.reg_hd (g : Gh) (p q : CA) {a : CA} (h : ¬ (a.root = q.root ∧ a.c = q.c)) : (g.reg p q).hd a = g.hd a := by
  show (if _ then _ else _) = _
  rw [if_neg (not_under_of_ne h)]
theorem Gh.reg_move (w : World) (g : Gh) (p q : CA) (hq : ∀ k, q.root = .obj k → 1000 ≤ k) : Move w g w (g.reg p q) :=
  ⟨Nat.le_refl _, rfl, fun b _ h => ⟨by rcases h with h | h <;> simp [Gh.reg, h], rfl⟩, fun _ _ => rfl,
    fun b k _ _ h => ⟨Gh.reg_box g p q h, fun cs _ _ hh => ⟨cs, hh, rfl, fun _ _ => rfl⟩⟩, ⟨rfl, rfl, rfl⟩, fun k _ _ hk _ => Gh.reg_hd _ _ _ fun e => by have := hq k e.1.symm; omega⟩
theorem Sg.nob {σ : Sg} {r : Root} (h : ¬ σ.ex r) : ∀ k, r = .obj k → 1000 ≤ k := by
  rintro k rfl
  simp only [Sg.ex] at h
  omega

/-! ## From one state to the next -/
theorem Core.step {E : Env} {σ σ' : Sg} {tmps tmps' : Array Value} {w w' : World} {g g' : Gh} (hc : Core E σ tmps w g)
    (hk : Keeps w w' g g' σ.dirty σ'.dirty σ.ex)
    (hs : ∀ n, (σ'.slot n = σ.slot n ∧ σ'.isnew n = σ.isnew n ∧ tmps'.getD n undef = tmps.getD n undef ∧ ∀ c, Still w w' g g' (σ.rt n) c) ∨
      (SVRep w' g' σ'.dirty (σ'.rt n) 0 (σ'.slot n) (tmps'.getD n undef) ∧ (σ'.slot n).flat = true ∧ ∀ r ∈ (σ'.slot n).roots, σ'.ex r))
    (ho : ∀ k kd, σ'.kind k = some kd → (σ.kind k = some kd ∧ (∀ c, σ'.cell k c = σ.cell k c ∧ Still w w' g g' (.obj k) c) ∧
      ((g.bl k).1 < w.heap.size → g.ow (g.bl k).1 = .box k → g'.ow (g.bl k).1 = .box k ∧ w'.heap[(g.bl k).1]? = w.heap[(g.bl k).1]?)) ∨ ObjRep w' g' σ' k kd)
    (hl : ∀ k c, σ'.cell k c = σ.cell k c ∨ ∀ r ∈ (σ'.cell k c).roots, σ'.ex r)
    (hm : ∀ k es, σ'.mp k = some es → (σ.mp k = some es ∧ ((g.bl k).1 < w.heap.size → g.ow (g.bl k).1 = .box k → g'.ow (g.bl k).1 = .box k ∧ w'.heap[(g.bl k).1]? = w.heap[(g.bl k).1]?)) ∨ MapRep w' g' k es)
    (hex : ∀ r, σ.ex r → σ'.ex r)
    (hg : ∀ b, b < E.ng → g'.ow b = g.ow b ∧ w'.heap[b]? = w.heap[b]?) (hsz : w.heap.size ≤ w'.heap.size) : Core E σ' tmps' w' g' := by
  refine ⟨fun n => ?_, fun n => ?_, fun n => ?_, fun k c => ?_, fun k kd h => ?_, fun k es h => ?_, fun b hb => ?_, Nat.le_trans hc.size hsz⟩
  · rcases hs n with ⟨h1, h2, h3, h4⟩ | h
    · have e : σ'.rt n = σ.rt n := by simp [Sg.rt, h2]
      rw [h1, h3, e]
      exact (hc.slots n).still hk (hc.liveS n) h4
    · exact h.1
  · rcases hs n with ⟨h1, _⟩ | h
    · rw [h1]; exact hc.flat n
    · exact h.2.1
  · rcases hs n with ⟨h1, _⟩ | h
    · rw [h1]; exact fun r hr => hex r (hc.liveS n r hr)
    · exact h.2.2
  · rcases hl k c with h1 | h
    · rw [h1]; exact fun r hr => hex r (hc.liveC k c r hr)
    · exact h
  · rcases ho k kd h with ⟨h1, h2, h34⟩ | h
    · have hex : σ.ex (.obj k) := .inr (.inl (by rw [h1]; simp))
      have hbl := hk.bl k hex
      have base := hc.objs k kd h1
      cases kd with
      | box m =>
        obtain ⟨cs, el, e1, e2, e3, e4, e5⟩ := base
        obtain ⟨h4, h3⟩ := h34 (lt_of_heap e1) e2
        refine ⟨cs, el, by rw [hbl, h3]; exact e1, by rw [hbl]; exact h4, by rw [hbl]; exact e3, by rw [hbl]; exact e4, fun c hcm => ?_⟩
        obtain ⟨u, f1, f2⟩ := e5 c hcm
        refine ⟨u, by rw [hbl]; exact f1, ?_⟩
        rw [(h2 c).1]
        exact f2.still hk (hc.liveC k c) (h2 c).2
      | virt =>
        obtain ⟨u, f2⟩ := base
        refine ⟨u, ?_⟩
        rw [(h2 0).1]
        exact f2.still hk (hc.liveC k 0) (h2 0).2
    · exact h
  · rcases hm k es h with ⟨h1, h23⟩ | h
    · have hex : σ.ex (.obj k) := .inr (.inr (by rw [h1]; simp))
      have hbl := hk.bl k hex
      obtain ⟨l, ck, e1, e2, e3, e4⟩ := hc.maps k es h1
      obtain ⟨h3, h2⟩ := h23 (lt_of_heap e1) e2
      refine ⟨l, ck, by rw [hbl, h2]; exact e1, by rw [hbl]; exact h3, e3, fun i e x a1 a2 => ?_⟩
      obtain ⟨b1, b2⟩ := e4 i e x a1 a2
      exact ⟨b1.frame hk.lim hk.fz, b2.frame hk.lim hk.fz⟩
    · exact h
  · obtain ⟨h1, h2⟩ := hg b hb
    obtain ⟨e1, e2⟩ := hc.glob b hb
    exact ⟨h1.trans e1, h2.trans e2⟩

/-- Nothing in memory changes, and no ghost. -/
theorem Keeps.refl (w : World) (g : Gh) (d : Dirt) (S : Root → Prop) : Keeps w w g g d d S :=
  ⟨Nat.le_refl _, fun _ _ h => ⟨h, rfl⟩, fun _ _ _ h => ⟨h, fun _ => rfl⟩, fun _ _ => rfl⟩
theorem Still.refl (w : World) (g : Gh) (r : Root) (c : Nat) : Still w w g g r c := ⟨fun _ _ _ h => ⟨h, rfl⟩, fun _ => rfl⟩

/-- A slot is written anew with something that owns nothing of its own place. -/
theorem Core.put {E : Env} {σ : Sg} {tmps : Array Value} {w : World} {g : Gh} (hc : Core E σ tmps w g) {d : Nat} {x : SV} {v : Value} (hn : σ.isnew d = false)
    (hx : SVRep w g σ.dirty (.new d) 0 x v) (hr : ∀ r ∈ x.roots, σ.ex r) (hf : x.flat = true) (hd : d < tmps.size ∨ v = undef) : Core E (σ.upd (.slot d x)) (tmps.setIfInBounds d v) w g := by
  have hex : ∀ r, σ.ex r → (σ.upd (.slot d x)).ex r := by
    intro r h
    cases r with
    | slot n => trivial
    | new n => by_cases e : n = d <;> simp_all [Sg.ex, Sg.upd]
    | obj k => exact h
    | ret => trivial
  refine Core.step hc (Keeps.refl _ _ _ _) (fun n => ?_) (fun k kd h => .inl ⟨h, fun c => ⟨rfl, Still.refl _ _ _ _⟩, fun _ h => ⟨h, rfl⟩⟩) (fun k c => .inl rfl)
    (fun k es h => .inl ⟨h, fun _ h => ⟨h, rfl⟩⟩) hex (fun b _ => ⟨rfl, rfl⟩) (Nat.le_refl _)
  by_cases e : n = d
  · subst e
    refine .inr ⟨?_, by simpa [Sg.upd] using hf, ?_⟩
    · have : (tmps.setIfInBounds n v).getD n undef = v := by
        rcases hd with h | h
        · simp [Array.getD, h]
        · subst h
          by_cases h : n < tmps.size <;> simp [Array.getD, h]
      rw [this]
      simpa [Sg.upd, Sg.rt, rt] using hx
    · intro r h
      apply hex
      exact hr r (by simpa [Sg.upd] using h)
  · refine .inl ⟨by simp [Sg.upd, e], by simp [Sg.upd, e], ?_, fun c => Still.refl _ _ _ _⟩
    have : n ≠ d := e
    simp only [Array.getD_eq_getD_getElem?]
    rw [Array.getElem?_setIfInBounds_ne (fun h => e h.symm)]
end Vx

namespace Vx
open Go Classical
set_option linter.unusedSimpArgs false
set_option linter.unusedVariables false

theorem CRep.repos {w : World} {g : Gh} {d : Dirt} {a a' : CA} {x : C} {v : Value} (h : CRep w g d a x v) (hn : x.isOwn = false) : CRep w g d a' x v := by
  induction h with
  | t h => exact .t (.fro (h.isFro fun sz xs e => by subst e; simp [C.isOwn] at hn))
  | ref h h1 => exact .ref h h1
  | ptr h h0 h1 => exact .ptr h h0 h1
  | fp vs hh ho hcell hrec => exact .fp vs hh ho hcell hrec
  | clo vs hn' h ih => exact .clo vs hn' fun j x hj => ih j x hj (hn' x (List.mem_of_getElem? hj))
  | mp h => exact .mp h
theorem Rep.own_hd {w : World} {g : Gh} {a : CA} {sz : Nat} {xs : List (List T)} {v : Value} (h : Rep w g a (.sl true sz xs) v) : v = g.hd a := by
  cases h with
  | fro h => exact h.noOwn.elim
  | onil hd => exact hd.symm
  | own vs hd => exact hd.symm
theorem CRep.alias {w : World} {g : Gh} {d : Dirt} {a : CA} {x : C} {v : Value} (h : CRep w g d a x v) (a' : CA) : CRep w g d a' (x.alias a) v := by
  unfold C.alias
  split
  · cases h with | t h => exact .ref (fun _ => h.own_hd) (by cases h <;> first | rfl | (rename_i h; exact h.noOwn.elim))
  · rename_i hx
    refine h.repos ?_
    unfold C.isOwn
    split
    · exact absurd rfl (hx _ _)
    · rfl
theorem C.alias_isOwn (x : C) (a : CA) : (x.alias a).isOwn = false := by
  unfold C.alias
  split
  · rfl
  · rename_i hx
    unfold C.isOwn
    split
    · exact absurd rfl (hx _ _)
    · rfl
theorem aliasFrom_get {r : Root} : ∀ {l : List C} {n j : Nat} {x : C}, (aliasFrom r n l)[j]? = some x → ∃ y, l[j]? = some y ∧ x = y.alias ⟨r, n + j, []⟩
  | [], n, j, x, h => by simp [aliasFrom] at h
  | y :: l, n, 0, x, h => by simp [aliasFrom] at h; exact ⟨y, rfl, h.symm⟩
  | y :: l, n, j + 1, x, h => by
    simp only [aliasFrom, List.getElem?_cons_succ] at h ⊢
    obtain ⟨z, h1, h2⟩ := aliasFrom_get h
    exact ⟨z, h1, by rw [h2, show n + 1 + j = n + (j + 1) by omega]⟩
theorem aliasFrom_length (r : Root) : ∀ (l : List C) (n : Nat), (aliasFrom r n l).length = l.length
  | [], _ => rfl
  | _ :: l, n => by simp [aliasFrom, aliasFrom_length r l]
theorem SVRep.alias1 {w : World} {g : Gh} {d : Dirt} {r : Root} {n : Nat} {sv : SV} {v : Value} (h : SVRep w g d r n sv v) (ht : ∀ l, sv ≠ .tup l) (r' : Root) (n' : Nat) : SVRep w g d r' n' (sv.alias1 r n) v := by
  cases h with
  | c h => exact .c (h.alias _)
  | agg vs h =>
    rename_i row
    have := SVRep.agg (w := w) (g := g) (d := d) (r := r') (n := n') (row := aliasFrom r n row) vs (fun j x hj => by
      obtain ⟨y, h1, h2⟩ := aliasFrom_get hj
      subst h2
      exact (h j y h1).alias _)
    rw [aliasFrom_length] at this
    exact this
  | tup vs h => exact absurd rfl (ht _)
theorem aliasTup_get {r : Root} : ∀ {l : List SV} {n j : Nat} {x : SV}, (aliasTup r n l)[j]? = some x → ∃ y, l[j]? = some y ∧ x = y.alias1 r (n + 64 * j)
  | [], n, j, x, h => by simp [aliasTup] at h
  | y :: l, n, 0, x, h => by simp [aliasTup] at h; exact ⟨y, rfl, h.symm⟩
  | y :: l, n, j + 1, x, h => by
    simp only [aliasTup, List.getElem?_cons_succ] at h ⊢
    obtain ⟨z, h1, h2⟩ := aliasTup_get h
    exact ⟨z, h1, by rw [h2]; congr 1; omega⟩
theorem aliasTup_length (r : Root) : ∀ (l : List SV) (n : Nat), (aliasTup r n l).length = l.length
  | [], _ => rfl
  | _ :: l, n => by simp [aliasTup, aliasTup_length r l]
theorem C.alias_roots (x : C) (a : CA) : ∀ r ∈ (x.alias a).roots, r = a.root ∨ r ∈ x.roots := by
  intro r h
  unfold C.alias at h
  split at h
  · simp [C.roots] at h; exact .inl h
  · exact .inr h
theorem aliasFrom_roots (r : Root) : ∀ (l : List C) (n : Nat), ∀ q ∈ C.rootsL (aliasFrom r n l), q = r ∨ q ∈ C.rootsL l
  | [], _, q, h => by simp [aliasFrom, C.rootsL] at h
  | x :: l, n, q, h => by
    simp only [aliasFrom, C.rootsL, List.mem_append] at h ⊢
    rcases h with h | h
    · rcases C.alias_roots _ _ q h with h | h
      · exact .inl h
      · exact .inr (.inl h)
    · rcases aliasFrom_roots r l _ q h with h | h
      · exact .inl h
      · exact .inr (.inr h)
theorem SV.alias1_roots (sv : SV) (r : Root) (n : Nat) : ∀ q ∈ (sv.alias1 r n).roots, q = r ∨ q ∈ sv.roots := by
  intro q h
  cases sv with
  | c x => exact C.alias_roots x _ q h
  | agg row => exact aliasFrom_roots r row n q h
  | tup l => exact .inr h
theorem aliasTup_roots (r : Root) : ∀ (l : List SV) (n : Nat), ∀ q ∈ SV.rootsL (aliasTup r n l), q = r ∨ q ∈ SV.rootsL l
  | [], _, q, h => by simp [aliasTup, SV.rootsL] at h
  | x :: l, n, q, h => by
    simp only [aliasTup, SV.rootsL, List.mem_append] at h ⊢
    rcases h with h | h
    · rcases SV.alias1_roots _ _ _ q h with h | h
      · exact .inl h
      · exact .inr (.inl h)
    · rcases aliasTup_roots r l _ q h with h | h
      · exact .inl h
      · exact .inr (.inr h)
theorem SV.alias_roots (sv : SV) (r : Root) : ∀ q ∈ (sv.alias r).roots, q = r ∨ q ∈ sv.roots := by
  intro q h
  cases sv with
  | c x => exact C.alias_roots x _ q h
  | agg row => exact aliasFrom_roots r row 0 q h
  | tup l => exact aliasTup_roots r l 64 q h
theorem SVRep.alias {w : World} {g : Gh} {d : Dirt} {r : Root} {sv : SV} {v : Value} (h : SVRep w g d r 0 sv v) (hf : sv.flat = true) (r' : Root) : SVRep w g d r' 0 (sv.alias r) v := by
  cases sv with
  | c x => exact h.alias1 (by intro l e; cases e) _ _
  | agg row => exact h.alias1 (by intro l e; cases e) _ _
  | tup l =>
    cases h with
    | tup vs h =>
      have := SVRep.tup (w := w) (g := g) (d := d) (r := r') (n := 0) (l := aliasTup r 64 l) vs (fun j x hj => by
        obtain ⟨y, h1, h2⟩ := aliasTup_get hj
        subst h2
        have h3 := (h j y h1).alias1 (by
          intro l' e
          simp only [SV.flat, List.all_eq_true] at hf
          have := hf y (List.mem_of_getElem? h1)
          rw [e] at this
          simp at this) r' (0 + 64 * (j + 1))
        rw [show 64 + 64 * j = 0 + 64 * (j + 1) by omega]
        exact h3)
      rw [aliasTup_length] at this
      exact this

theorem Sg.rt_ex (σ : Sg) (n : Nat) : σ.ex (σ.rt n) := by
  unfold Sg.rt Vx.rt
  split
  · rename_i h; exact h
  · trivial
theorem rt_eq (σ : Sg) (n : Nat) : rt n (σ.isnew n) = σ.rt n := rfl

end Vx

namespace Vx
open Go Classical

/-! ## What is asked of the code's text -/
def smallV : Value → Bool
  | .agg cs => cs.all smallC
  | v => smallC v
def okOpd : Operand → Bool
  | .const v => smallV v
  | _ => true
def okOper (N : Nat) (o : Oper) : Bool := (match o.dst with | some d => decide (d < N) | none => true) && o.op.operands.all okOpd

/-- The operation `o`, from the state `σ` on, is sound for the updates `us`. -/
def OpOK (E : Env) (N : Nat) (o : Oper) (σ : Sg) (us : List Upd) : Prop :=
  ∀ (a : Act) (w : World) (g : Gh), Core E σ a.tmps w g → a.tmps.size = N → LIM ≤ g.lim → ∀ (K : Act → World → Prop) (Q : Exit → Act → World → Prop),
    (∀ a' w' g', Core E (σ.upds us) a'.tmps w' g' → Move w g w' g' → a'.tmps.size = N → a'.defers = a.defers → K a' w') → o.wp E.P a w K Q

/-! ## Operands -/
theorem Rep.ofV {w : World} {g : Gh} {a : CA} (hl : LIM ≤ g.lim) {v : Value} (hv : smallC v = true) : Rep w g a (T.ofV v) v := .fro <| by
  cases v with
  | int k n => exact .int
  | bool b => exact .bool
  | string s => exact .str (by simp [smallC] at hv; unfold LIM at hl; omega)
  | slice p n c =>
    unfold T.ofV
    split
    all_goals first
      | (rename_i h; cases h; exact .nil)
      | exact .val
      | simp_all
  | _ => exact .val
theorem SVRep.ofV {w : World} {g : Gh} {d : Dirt} {r : Root} (hl : LIM ≤ g.lim) {v : Value} (hv : smallV v = true) : SVRep w g d r 0 (SV.ofV v) v := by
  unfold SV.ofV
  split
  · rename_i cs
    have := SVRep.agg (w := w) (g := g) (d := d) (r := r) (n := 0) (row := cs.toList.map fun v => C.t (T.ofV v)) (fun j => cs.getD j undef) (fun j x hj => by
      simp only [List.getElem?_map, Option.map_eq_some_iff] at hj
      obtain ⟨v, h1, rfl⟩ := hj
      have h2 : cs[j]? = some v := by simpa using h1
      have : cs.getD j undef = v := by simp [Array.getD_eq_getD_getElem?, h2]
      rw [this]
      refine .t (Rep.ofV hl ?_)
      simp only [smallV, Array.all_eq_true] at hv
      obtain ⟨hlt, h3⟩ := Array.getElem?_eq_some_iff.1 h2
      have := hv j hlt
      rw [h3] at this
      exact this)
    have e : ((List.range (cs.toList.map fun v => C.t (T.ofV v)).length).map fun j => cs.getD j undef).toArray = cs := by
      apply Array.ext_getElem?
      intro i
      by_cases h : i < cs.size
      · simp [h, Array.getD_eq_getD_getElem?]
      · simp [h]
    rw [e] at this
    exact this
  · exact .c (.t (Rep.ofV hl (by unfold smallV at hv; split at hv <;> simp_all)))
theorem ofV_roots (v : Value) : (SV.ofV v).roots = [] := by
  unfold SV.ofV
  split
  · simp only [SV.roots]
    rename_i cs
    generalize cs.toList = l
    induction l <;> simp_all [C.rootsL, C.roots]
  · simp [SV.roots, C.roots]

theorem rdS_ok {σ : Sg} {x : Operand} {f : SV → Rd Eff} (h : ((rdS x f).run σ).ok) : ∃ sv, (rdS x f).run σ = (f sv).run σ ∧ (∀ r ∈ sv.roots, ∀ E tmps w g, Core E σ tmps w g → σ.ex r) ∧
    ∀ E a w g, Core E σ (Act.tmps a) w g → LIM ≤ g.lim → okOpd x = true → ∀ r, SVRep w g σ.dirty r 0 sv (a.eval x) := by
  cases x with
  | tmp n =>
    refine ⟨(σ.slot n).alias (σ.rt n), rfl, fun r hr E tmps w g hc => ?_, fun E a w g hc _ _ r => (hc.slots n).alias (hc.flat n) r⟩
    rcases SV.alias_roots _ _ r hr with h | h
    · rw [h]; exact σ.rt_ex n
    · exact hc.liveS n r h
  | const v => exact ⟨SV.ofV v, rfl, fun r hr => by rw [ofV_roots] at hr; simp at hr, fun E a w g _ hl ho r => SVRep.ofV hl ho⟩
  | func f' =>
    refine ⟨_, rfl, fun r hr => by simp [SV.roots, C.roots, C.rootsL] at hr, fun E a w g _ _ _ r => .c ?_⟩
    have := CRep.clo (w := w) (g := g) (d := σ.dirty) (a := ⟨r, 0, []⟩) (f := f') (caps := []) (fun _ => undef) (by simp) (fun j x hj => by simp at hj)
    simpa [Act.eval] using this
  | global g => exact h.elim
theorem rdT_ok {σ : Sg} {x : Operand} {f : T → Rd Eff} (h : ((rdT x f).run σ).ok) : ∃ t, (rdT x f).run σ = (f t).run σ ∧
    ∀ E a w g, Core E σ (Act.tmps a) w g → LIM ≤ g.lim → okOpd x = true → ∃ r, Rep w g ⟨r, 0, []⟩ t (a.eval x) := by
  unfold rdT at h ⊢
  obtain ⟨sv, e1, _, e2⟩ := rdS_ok h
  rw [e1] at h ⊢
  rcases sv with ((t | _ | _ | _ | _ | _) | _ | _)
  case c.t =>
    refine ⟨t, rfl, fun E a w g hc hl ho => ?_⟩
    have hr := e2 E a w g hc hl ho .ret
    cases hr with
    | c h => cases h with | t h => exact ⟨_, h⟩
  all_goals exact h.elim

theorem finish_ok {σ : Sg} {ok : Prop} {us : List Upd} (h : ((finish ok us).run σ).ok) : ok ∧ (finish ok us).run σ = ⟨ok, us⟩ ∧ distinct (keysOf us) = true := by
  unfold finish at *
  split
  · rename_i hd
    rw [if_pos hd] at h
    exact ⟨h, rfl, hd⟩
  · rename_i hd
    rw [if_neg hd] at h
    exact h.elim
theorem put_ok {σ : Sg} {o : Oper} {x : SV} {us : List Upd} {ok : Prop} (h : ((put o x us ok).run σ).ok) : ok ∧
    (∀ d, o.dst = some d → σ.isnew d = false ∧ (put o x us ok).run σ = ⟨ok, us ++ [.slot d x]⟩ ∧ distinct (keysOf (us ++ [.slot d x])) = true) ∧
    (o.dst = none → (put o x us ok).run σ = ⟨ok, us⟩ ∧ distinct (keysOf us) = true) := by
  unfold put at *
  cases hd : o.dst with
  | none =>
    rw [hd] at h
    obtain ⟨h1, h2, h3⟩ := finish_ok h
    exact ⟨h1, fun d (hd : none = some d) => (by cases hd), fun _ => ⟨h2, h3⟩⟩
  | some d =>
    rw [hd] at h
    simp only [Rd.run] at h ⊢
    cases hn : σ.isnew d with
    | true => rw [hn] at h; exact h.elim
    | false =>
      rw [hn] at h
      obtain ⟨h1, h2, h3⟩ := finish_ok h
      refine ⟨h1, fun d' (hd' : some d = some d') => ?_, fun (h : some d = none) => (by cases h)⟩
      cases hd'
      refine ⟨hn, ?_, h3⟩
      simpa [hn] using h2

/-- An operation that only computes. -/
theorem OpOK.pure {E : Env} {N : Nat} {o : Oper} {σ : Sg} {x : SV} {us : List Upd} {ok : Prop} (hN : okOper N o = true) (hok : ((Vx.put o x [] ok).run σ).ok)
    (hus : us = ((Vx.put o x [] ok).run σ).upd)
    (h : ∀ (a : Act) (w : World) (g : Gh), Core E σ a.tmps w g → LIM ≤ g.lim → ∃ v, (execOp a.eval o).run E.P w = .ok (.value v) w ∧
      (∀ r, SVRep w g σ.dirty r 0 x v) ∧ (∀ r ∈ x.roots, σ.ex r)) (hf : x.flat = true := by rfl) : OpOK E N o σ us := by
  intro a w g hc hs hl K Q hK
  obtain ⟨v, he, hx, hr⟩ := h a w g hc hl
  unfold Oper.wp
  rw [he, Oper.upon_value]
  obtain ⟨h1, h2, h3⟩ := put_ok hok
  cases hd : o.dst with
  | none =>
    obtain ⟨e, _⟩ := h3 hd
    refine hK _ w g ?_ (Move.refl _ _) hs rfl
    rw [hus, e]
    exact hc
  | some d =>
    obtain ⟨hn, e, _⟩ := h2 d hd
    refine hK _ w g ?_ (Move.refl _ _) (by simpa [Act.put] using hs) rfl
    rw [hus, e]
    have hdN : d < N := by
      unfold okOper at hN
      rw [hd] at hN
      simp at hN
      exact hN.1
    exact hc.put hn (hx _) hr hf (.inl (by rw [hs]; exact hdN))

theorem okOper_opd {N : Nat} {o : Oper} (h : okOper N o = true) {x : Operand} (hx : x ∈ o.op.operands) : okOpd x = true := by
  unfold okOper at h
  simp only [Bool.and_eq_true, Array.all_eq_true] at h
  obtain ⟨i, hi, e⟩ := Array.mem_iff_getElem.1 hx
  rw [← e]
  exact h.2 i hi

/-! ## Arithmetic, comparison -/
theorem toList_iff (a b : ByteArray) : a.toList = b.toList ↔ a = b := by
  rw [ByteArray.toList_eq, ByteArray.toList_eq]
  constructor
  · intro h
    cases a; cases b
    simp at h
    simp [h]
  · rintro rfl; rfl
theorem toList_beq (a b : ByteArray) : (a.toList == b.toList) = decide (a = b) := by
  by_cases e : a = b
  · simp [e]
  · have : ¬ a.toList = b.toList := fun q => e ((toList_iff a b).1 q)
    simp [e, this]

theorem isBoolT_un {P : Program} {t : TypeId} (h : isBoolT P t = true) : P.underlying t = some .bool := by
  unfold isBoolT tinfo at h
  split at h
  · rename_i e
    split at e
    · rename_i i d h1 h2
      cases d <;> first | exact h2 | (simp at e)
    · cases e
  · cases h
theorem isStrT_un {P : Program} {t : TypeId} (h : isStrT P t = true) : P.underlying t = some .string := by
  unfold isStrT tinfo at h
  split at h
  · rename_i e
    split at e
    · rename_i i d h1 h2
      cases d <;> first | exact h2 | (simp at e)
    · cases e
  · cases h
theorem isSlT_un {P : Program} {t : TypeId} (h : isSlT P t = true) : ∃ e, P.underlying t = some (.slice e) := by
  unfold isSlT tinfo at h
  split at h
  · rename_i e
    split at e
    · rename_i i d h1 h2
      cases d <;> first | exact ⟨_, h2⟩ | (simp at e)
    · cases e
  · cases h
theorem run_equal_bool {P : Program} {w : World} {xt : TypeId} (hu : P.underlying xt = some .bool) (a b : Bool) : (Op.equal xt (.bool a) (.bool b)).run P w = .ok (a == b) w := by
  show (Op.equalIn (9999 + 1) xt (.bool a) (.bool b)).run P w = _
  rw [Op.equalIn]
  have h1 : (underlying xt).run P w = .ok .bool w := by simp [underlying, hu]
  rw [Sem.run_bind, h1, Result.andThen_ok]
  rfl

theorem run_equal_nil {P : Program} {w : World} {xt e : TypeId} (hu : P.underlying xt = some (.slice e)) (a : Option Addr) (n c : Nat) : (Op.equal xt (.slice a n c) (.slice none 0 0)).run P w = .ok a.isNone w := by
  show (Op.equalIn (9999 + 1) xt (.slice a n c) (.slice none 0 0)).run P w = _
  rw [Op.equalIn]
  have h1 : (underlying xt).run P w = .ok (.slice e) w := by simp [underlying, hu]
  rw [Sem.run_bind, h1, Result.andThen_ok]
  cases a <;> rfl
theorem binT_cat {P : Program} {w : World} {xt : TypeId} {x y : Operand} {a b : ByteArray} (hs : a.size + b.size ≤ LIM) :
    (do eqGuard .add xt x y (.string a) (.string b); binOp .add xt (.string a) (.string b) : Sem Value).run P w = .ok (.string (a ++ b)) w := by
  have hs' : ¬ ((a.size + b.size : Nat) : Int) > IntKind.i64.max := Int.not_lt.2 (Int.le_trans (Int.ofNat_le.2 hs) (by decide))
  simp only [eqGuard, binOp, Op.stringOp, if_neg hs']
  simp
theorem binT_ok {P : Program} {w : World} {g : Gh} {op : BinOp} {xt : TypeId} {x y : Operand} {a b c : T} {va vb : Value} {pa pb : CA} (hl : LIM ≤ g.lim) (h : binT P xt op a b = some c) (ha : Rep w g pa a va) (hb : Rep w g pb b vb) :
    ∃ v, (do eqGuard op xt x y va vb; binOp op xt va vb : Sem Value).run P w = .ok v w ∧ ∀ p, Rep w g p c v := by
  unfold binT at h
  split at h
  all_goals try split at h
  all_goals cases h
  all_goals
    (cases hb; rename_i hb; cases hb; cases ha; rename_i ha; cases ha)
  all_goals try (rename_i e; subst e)
  all_goals try (rename_i e; obtain ⟨rfl, hb0⟩ := e)
  all_goals
    first
      | (refine ⟨_, ?_, fun p => .fro FRep.int⟩; simp [eqGuard, binOp, Op.intArith]; done)
      | (refine ⟨_, ?_, fun p => .fro FRep.int⟩; simp [eqGuard, binOp, Op.intDiv, hb0]; done)
      | (refine ⟨_, ?_, fun p => .fro FRep.bool⟩; simp [eqGuard, binOp, Op.intCmp, Op.stringOp, toList_beq]; done)
      | (refine ⟨_, ?_, fun p => .fro FRep.bool⟩; simp [eqGuard, binOp, Op.intCmp]; first | rfl | (simp [bne]; rfl); done)
      | (refine ⟨_, binT_cat (by assumption), fun p => .fro (FRep.str (by rw [ByteArray.size_append]; exact Nat.le_trans (by assumption) hl))⟩; done)
      | skip
  all_goals
    first
    | (have hu : P.underlying xt = some .bool := isBoolT_un (by assumption)
       refine ⟨_, ?_, fun p => .fro FRep.bool⟩
       have h1 := fun a b => run_equal_bool (w := w) hu a b
       simp [eqGuard, binOp, h1, bne]
       done)
    | (obtain ⟨e, hu⟩ := isSlT_un (P := P) (t := xt) (by assumption)
       have h1 := fun a n c => run_equal_nil (w := w) hu a n c
       first
       | (refine ⟨.bool true, ?_, fun p => .fro FRep.bool⟩; simp [eqGuard, binOp, h1, bne]; done)
       | (refine ⟨.bool false, ?_, fun p => .fro FRep.bool⟩; simp [eqGuard, binOp, h1, bne]; done)
       | (refine ⟨_, by simp [eqGuard, binOp, h1, bne]; rfl, fun p => .fro (FRep.may (fun _ => rfl) (fun _ => trivial))⟩; done)
       | (refine ⟨_, by simp [eqGuard, binOp, h1, bne]; rfl, fun p => .fro (FRep.may (fun _ => trivial) (fun _ => rfl))⟩; done)
       | (refine ⟨_, by simp [eqGuard, binOp, h1, bne]; rfl, fun p => .fro (FRep.may (fun h => by cases h) (fun _ => trivial))⟩; done)
       | (refine ⟨_, by simp [eqGuard, binOp, h1, bne]; rfl, fun p => .fro (FRep.may (fun _ => trivial) (fun h => by cases h))⟩; done))
end Vx

namespace Vx
open Go Classical

/-! ## Places -/
theorem place_ok {σ : Sg} {r : Root} {c : Nat} {f : T → Rd Eff} (h : ((place r c f).run σ).ok) : ∃ t, (place r c f).run σ = (f t).run σ ∧ σ.dirty r c = false ∧ σ.ex r ∧
    (∀ n, (r = .slot n ∨ r = .new n) → r = σ.rt n ∧ (σ.slot n).cellAt c = some (.t t)) ∧ (∀ k, r = .obj k → σ.inr k c = true ∧ σ.cell k c = .t t) ∧ r ≠ .ret := by
  cases r with
  | slot n =>
    simp only [place, Rd.run] at h ⊢
    cases hn : σ.isnew n with
    | true => simp [hn] at h; exact h.elim
    | false =>
      have hrt : σ.rt n = .slot n := by simp [Sg.rt, Vx.rt, hn]
      rw [hn, hrt] at h
      rw [hrt]
      cases hd : σ.dirty (.slot n) c with
      | true => simp [hd] at h; exact h.elim
      | false =>
        simp only [hd, Bool.or_self, Bool.false_eq_true, if_false] at h ⊢
        cases hx : (σ.slot n).cellAt c with
        | none => simp only [hx] at h; exact h.elim
        | some x =>
          cases x with
          | t t => simp only [hx] at h ⊢; exact ⟨t, rfl, trivial, trivial, fun m hm => (by rcases hm with e | e <;> cases e; exact ⟨hrt.symm, hx⟩), fun k e => (by cases e), (by intro e; cases e)⟩
          | _ => simp only [hx] at h; exact h.elim
  | new n =>
    simp only [place, Rd.run] at h ⊢
    cases hn : σ.isnew n with
    | false => simp [hn] at h; exact h.elim
    | true =>
      have hrt : σ.rt n = .new n := by simp [Sg.rt, Vx.rt, hn]
      rw [hn, hrt] at h
      rw [hrt]
      cases hd : σ.dirty (.new n) c with
      | true => simp [hd] at h; exact h.elim
      | false =>
        simp only [hd, Bool.or_self, Bool.not_true, Bool.false_eq_true, if_false] at h ⊢
        cases hx : (σ.slot n).cellAt c with
        | none => simp only [hx] at h; exact h.elim
        | some x =>
          cases x with
          | t t => simp only [hx] at h ⊢; exact ⟨t, rfl, trivial, hn, fun m hm => (by rcases hm with e | e <;> cases e; exact ⟨hrt.symm, hx⟩), fun k e => (by cases e), (by intro e; cases e)⟩
          | _ => simp only [hx] at h; exact h.elim
  | obj k =>
    simp only [place, Rd.run] at h ⊢
    cases hi : inrK (σ.kind k) c with
    | false => simp [hi] at h; exact h.elim
    | true =>
      simp only [hi, if_true, Rd.run] at h ⊢
      cases hd : σ.dirty (.obj k) c with
      | true => simp [hd] at h; exact h.elim
      | false =>
        simp only [hd, Bool.false_eq_true, if_false] at h ⊢
        have hex : σ.ex (.obj k) := .inr (.inl (by intro e; rw [e] at hi; cases hi))
        cases hx : σ.cell k c with
        | t t => simp only [hx] at h ⊢; exact ⟨t, rfl, trivial, hex, fun n hn => (by rcases hn with e | e <;> cases e), fun j e => (by cases e; exact ⟨hi, hx⟩), (by intro e; cases e)⟩
        | _ => simp only [hx] at h; exact h.elim
  | ret => exact h.elim

theorem SVRep.cellAt {w : World} {g : Gh} {d : Dirt} {r : Root} {sv : SV} {v : Value} {c : Nat} {x : C} (h : SVRep w g d r 0 sv v) (hx : sv.cellAt c = some x) : ∃ u, CRep w g d ⟨r, c, []⟩ x u := by
  cases h with
  | c h =>
    simp only [SV.cellAt] at hx
    split at hx
    · cases hx
      rename_i e
      subst e
      exact ⟨v, h⟩
    · cases hx
  | agg vs h =>
    simp only [SV.cellAt] at hx
    have := h c x hx
    simp only [Nat.zero_add] at this
    exact ⟨_, this⟩
  | tup vs h =>
    rename_i l
    simp only [SV.cellAt] at hx
    split at hx
    · rename_i y hy
      split at hx
      · rename_i e
        cases hx
        have := h _ _ hy
        cases this with
        | c h =>
          rw [show 0 + 64 * (c / 64 - 1 + 1) = c by omega] at h
          exact ⟨_, h⟩
      · cases hx
    · rename_i row hy
      split at hx
      · rename_i e
        have := h _ _ hy
        generalize vs (c / 64 - 1) = u at this
        cases this with
        | agg us h =>
          have := h _ _ hx
          rw [show 0 + 64 * (c / 64 - 1 + 1) + c % 64 = c by omega] at this
          exact ⟨_, this⟩
      · cases hx
    · cases hx
theorem Core.place {E : Env} {σ : Sg} {tmps : Array Value} {w : World} {g : Gh} (hc : Core E σ tmps w g) {r : Root} {c : Nat} {t : T}
    (h1 : ∀ n, (r = .slot n ∨ r = .new n) → r = σ.rt n ∧ (σ.slot n).cellAt c = some (.t t)) (h2 : ∀ k, r = .obj k → σ.inr k c = true ∧ σ.cell k c = .t t) (h3 : r ≠ .ret) :
    ∃ v, Rep w g ⟨r, c, []⟩ t v := by
  cases r with
  | slot n =>
    obtain ⟨e1, e2⟩ := h1 n (.inl rfl)
    have := hc.slots n
    rw [← e1] at this
    obtain ⟨u, hu⟩ := this.cellAt e2
    cases hu with | t h => exact ⟨u, h⟩
  | new n =>
    obtain ⟨e1, e2⟩ := h1 n (.inr rfl)
    have := hc.slots n
    rw [← e1] at this
    obtain ⟨u, hu⟩ := this.cellAt e2
    cases hu with | t h => exact ⟨u, h⟩
  | obj k =>
    obtain ⟨e1, e2⟩ := h2 k rfl
    unfold Sg.inr at e1
    cases hk : σ.kind k with
    | none => rw [hk] at e1; cases e1
    | some kd =>
      have base := hc.objs k kd hk
      rw [hk] at e1
      cases kd with
      | box m =>
        simp only [inrK, decide_eq_true_eq] at e1
        obtain ⟨cs, el, _, _, _, _, e5⟩ := base
        obtain ⟨u, _, hu⟩ := e5 c e1
        rw [e2] at hu
        cases hu with | t h => exact ⟨u, h⟩
      | virt =>
        simp only [inrK, beq_iff_eq] at e1
        subst e1
        obtain ⟨u, hu⟩ := base
        rw [e2] at hu
        cases hu with | t h => exact ⟨u, h⟩
  | ret => exact absurd rfl h3

theorem deref_ok {σ : Sg} {a : CA} {f : T → T → Rd Eff} (h : ((deref a f).run σ).ok) : ∃ t x, (deref a f).run σ = (f t x).run σ ∧ t.at a.path = some x ∧ σ.dirty a.root a.c = false ∧ σ.ex a.root ∧
    (∀ n, (a.root = .slot n ∨ a.root = .new n) → a.root = σ.rt n ∧ (σ.slot n).cellAt a.c = some (.t t)) ∧ (∀ k, a.root = .obj k → σ.inr k a.c = true ∧ σ.cell k a.c = .t t) ∧ a.root ≠ .ret := by
  unfold deref at h ⊢
  obtain ⟨t, e, rest⟩ := place_ok h
  rw [e] at h ⊢
  cases hx : t.at a.path with
  | none => simp only [hx] at h; exact h.elim
  | some x => exact ⟨t, x, by simp only, hx, rest⟩
theorem Core.deref {E : Env} {σ : Sg} {tmps : Array Value} {w : World} {g : Gh} (hc : Core E σ tmps w g) {a : CA} {t x : T} (hx : t.at a.path = some x)
    (h1 : ∀ n, (a.root = .slot n ∨ a.root = .new n) → a.root = σ.rt n ∧ (σ.slot n).cellAt a.c = some (.t t)) (h2 : ∀ k, a.root = .obj k → σ.inr k a.c = true ∧ σ.cell k a.c = .t t) (h3 : a.root ≠ .ret) :
    ∃ v, Rep w g a x v := by
  obtain ⟨v, hv⟩ := hc.place h1 h2 h3
  obtain ⟨u, hu, _⟩ := hv.at hx
  refine ⟨u, ?_⟩
  have : (⟨a.root, a.c, []⟩ : CA).go a.path = a := by cases a; simp [CA.go]
  rw [this] at hu
  exact hu
end Vx

namespace Vx
open Go Classical
set_option linter.unusedSimpArgs false
set_option linter.unusedVariables false

section
variable {E : Env} {N : Nat} {o : Oper} {σ : Sg}

theorem SVRep.free {w : World} {g : Gh} {d : Dirt} {r r' : Root} {sv : SV} {v : Value} (h : SVRep w g d r 0 sv v) (hn : sv.hasOwn = false) : SVRep w g d r' 0 sv v := by
  cases h with
  | c h => exact .c (h.repos hn)
  | agg vs h =>
    refine .agg vs fun j x hj => (h j x hj).repos ?_
    simp only [SV.hasOwn, List.any_eq_false] at hn
    simpa using hn x (List.mem_of_getElem? hj)
  | tup vs h => simp [SV.hasOwn] at hn

theorem T.ofV_notOwn (v : Value) : (C.t (T.ofV v)).isOwn = false := by
  unfold T.ofV
  split <;> rfl
theorem SV.flat_row {sv : SV} (h : sv.row.isSome = true) : sv.flat = true := by
  cases sv with
  | tup l => simp [SV.row] at h
  | _ => rfl
theorem ok_move (hN : okOper N o = true) {x : Operand} (ho : o.op = .move x) (h : ((astep E.P o).run σ).ok) : OpOK E N o σ ((astep E.P o).run σ).upd := by
  have hs : okOpd x = true := okOper_opd hN (by rw [ho]; simp [Op.operands])
  simp only [astep, ho] at h ⊢
  obtain ⟨sv, e1, hr, e2⟩ := rdS_ok h
  rw [e1] at h ⊢
  obtain ⟨hrow, _⟩ := put_ok h
  exact OpOK.pure hN h rfl (fun a w g hc hl => ⟨a.eval x, by simp [execOp, ho], e2 E a w g hc hl hs, fun r hq => hr r hq _ _ _ _ hc⟩) hrow

theorem ok_binOp (hN : okOper N o = true) {op : BinOp} {xt yt : TypeId} {x y : Operand} (ho : o.op = .binOp op xt x y yt) (h : ((astep E.P o).run σ).ok) : OpOK E N o σ ((astep E.P o).run σ).upd := by
  have e : astep E.P o = rdT x fun a => rdT y fun b => match binT E.P xt op a b with | some t => put o (.c (.t t)) [] True | none => fail := by simp only [astep, ho] <;> rfl
  rw [e] at h ⊢
  obtain ⟨a, e1, r1⟩ := rdT_ok h
  rw [e1] at h ⊢
  obtain ⟨b, e2, r2⟩ := rdT_ok h
  rw [e2] at h ⊢
  cases hb : binT E.P xt op a b with
  | none => rw [hb] at h; exact h.elim
  | some t =>
    rw [hb] at h
    simp only at h ⊢
    refine OpOK.pure hN h rfl fun ac w g hc hl => ?_
    obtain ⟨ra, ha⟩ := r1 E ac w g hc hl (okOper_opd hN (by rw [ho]; simp [Op.operands]))
    obtain ⟨rb, hb'⟩ := r2 E ac w g hc hl (okOper_opd hN (by rw [ho]; simp [Op.operands]))
    obtain ⟨v, hv, hr⟩ := binT_ok (xt := xt) (x := x) (y := y) hl hb ha hb'
    refine ⟨v, ?_, fun r => .c (.t (hr _)), by simp [SV.roots, C.roots]⟩
    simp only [execOp, ho]
    simp only [Sem.run_bind] at hv ⊢
    rw [hv]
    rfl

theorem ok_not (hN : okOper N o = true) {xt : TypeId} {x : Operand} (ho : o.op = .unOp .not xt x) (h : ((astep E.P o).run σ).ok) : OpOK E N o σ ((astep E.P o).run σ).upd := by
  have e : astep E.P o = rdT x fun a => match a with | .bool b => put o (.c (.t (.bool !b))) [] True | _ => fail := by simp only [astep, ho] <;> rfl
  rw [e] at h ⊢
  obtain ⟨a, e1, r1⟩ := rdT_ok h
  rw [e1] at h ⊢
  cases a with
  | bool b =>
    refine OpOK.pure hN h rfl fun ac w g hc hl => ?_
    obtain ⟨ra, ha⟩ := r1 E ac w g hc hl (okOper_opd hN (by rw [ho]; simp [Op.operands]))
    cases ha; rename_i ha
    generalize hv : ac.eval x = v at ha
    cases ha
    exact ⟨.bool (!b), by simp [execOp, ho, hv, Op.unary], fun r => .c (.t (.fro .bool)), by simp [SV.roots, C.roots]⟩
  | _ => exact h.elim

theorem ok_neg (hN : okOper N o = true) {xt : TypeId} {x : Operand} (ho : o.op = .unOp .neg xt x) (h : ((astep E.P o).run σ).ok) : OpOK E N o σ ((astep E.P o).run σ).upd := by
  have e : astep E.P o = rdT x fun a => match a with | .int k n => put o (.c (.t (.int k (k.wrap (-n))))) [] True | _ => fail := by simp only [astep, ho] <;> rfl
  rw [e] at h ⊢
  obtain ⟨a, e1, r1⟩ := rdT_ok h
  rw [e1] at h ⊢
  cases a with
  | int k n =>
    refine OpOK.pure hN h rfl fun ac w g hc hl => ?_
    obtain ⟨ra, ha⟩ := r1 E ac w g hc hl (okOper_opd hN (by rw [ho]; simp [Op.operands]))
    cases ha; rename_i ha
    generalize hv : ac.eval x = v at ha
    cases ha
    exact ⟨.int k (k.wrap (-n)), by simp [execOp, ho, hv, Op.unary, Op.intArith], fun r => .c (.t (.fro .int)), by simp [SV.roots, C.roots]⟩
  | _ => exact h.elim

theorem PRep.ptr {g : Gh} {p : CA} {v : Value} (h : PRep g p v) : ∃ ad, v = .pointer (some ad) ∧ ad.spot = none := by
  unfold PRep at h
  split at h
  · obtain ⟨k, _, e⟩ := h; exact ⟨_, e, rfl⟩
  · obtain ⟨b, off, n, cap, _, e⟩ := h; exact ⟨_, e, rfl⟩
theorem CRep.ptr_val {w : World} {g : Gh} {d : Dirt} {a p : CA} {v : Value} (h : CRep w g d a (.ptr p) v) (hp : p.path = [] ∨ d p.root p.c = false) : PRep g p v := by
  cases h with
  | ptr h h0 _ =>
    by_cases e : p.path = []
    · exact h0 e
    · exact h e (hp.resolve_left e)

theorem ok_nilCheck (hN : okOper N o = true) {x : Operand} (ho : o.op = .nilCheck x) (h : ((astep E.P o).run σ).ok) : OpOK E N o σ ((astep E.P o).run σ).upd := by
  have e : astep E.P o = rdS x fun sv => match sv with
    | .c (.ptr ⟨r, c, []⟩) => put o (.c (.ptr ⟨r, c, []⟩)) [] True
    | .c (.ptr ⟨r, c, h :: q⟩) => place r c fun _ => put o (.c (.ptr ⟨r, c, h :: q⟩)) [] True
    | .c (.fp r c) => put o (.c (.fp r c)) [] True
    | _ => fail := by simp only [astep, ho] <;> rfl
  rw [e] at h ⊢
  obtain ⟨sv, e1, hr, e2⟩ := rdS_ok h
  rw [e1] at h ⊢
  have hopd : okOpd x = true := okOper_opd hN (by rw [ho]; simp [Op.operands])
  rcases sv with ((t | p | ⟨r, c, _ | ⟨hp, q⟩⟩ | ⟨row, c⟩ | _ | _) | _ | _)
  case c.ptr.nil =>
    refine OpOK.pure hN h rfl fun a w g hc hl => ?_
    have hx := e2 E a w g hc hl hopd .ret
    cases hx; rename_i hx
    refine ⟨a.eval x, ?_, fun r' => .c (hx.repos rfl), fun r hq => hr r hq _ _ _ _ hc⟩
    obtain ⟨ad, he, _⟩ := (hx.ptr_val (.inl rfl)).ptr
    simp [execOp, ho, he]
  case c.ptr.cons =>
    simp only at h ⊢
    obtain ⟨t, ep, hd, _⟩ := place_ok h
    rw [ep] at h ⊢
    refine OpOK.pure hN h rfl fun a w g hc hl => ?_
    have hx := e2 E a w g hc hl hopd .ret
    cases hx; rename_i hx
    refine ⟨a.eval x, ?_, fun r' => .c (hx.repos rfl), fun r hq => hr r hq _ _ _ _ hc⟩
    obtain ⟨ad, he, _⟩ := (hx.ptr_val (.inr hd)).ptr
    simp [execOp, ho, he]
  case c.fp =>
    refine OpOK.pure hN h rfl fun a w g hc hl => ?_
    have hx := e2 E a w g hc hl hopd .ret
    cases hx; rename_i hx
    refine ⟨a.eval x, ?_, fun r' => .c (hx.repos rfl), fun r hq => hr r hq _ _ _ _ hc⟩
    generalize hv : a.eval x = v at hx
    cases hx
    simp [execOp, ho, hv]
  all_goals exact h.elim

/-! ## Addresses -/
theorem tinfo_some {P : Program} {t : TypeId} {i : TI} (h : tinfo P t = some i) : ∃ inf d, P.info? t = some inf ∧ P.underlying t = some d ∧ i.size = inf.size ∧ i.bytes = inf.bytes ∧
    i.zero = (match inf.zero with | some v => if v.cells.all smallC then v.cells.toList.map T.ofV else [] | none => []) ∧
    i.agg = (match d with | .struct _ => true | .array .. => true | _ => false) ∧ i.fld = (match d with | .struct fs => fs.toList.map (fun f => (f.offset, match P.info? f.type with | some i => i.size | none => 0)) | _ => []) ∧
    i.elem = (match d with | .slice e => some e | _ => none) := by
  unfold tinfo at h
  split at h
  · rename_i inf d h1 h2
    cases h
    exact ⟨inf, d, h1, h2, rfl, rfl, rfl, rfl, rfl, rfl⟩
  · cases h
theorem tinfo_fld {P : Program} {t : TypeId} {i : TI} {f off n : Nat} (h : tinfo P t = some i) (hf : i.fld[f]? = some (off, n + 1)) : ∃ fs fl inf, P.underlying t = some (.struct fs) ∧ fs[f]? = some fl ∧ fl.offset = off ∧
    P.info? fl.type = some inf ∧ inf.size = n + 1 := by
  obtain ⟨inf, d, _, h2, _, _, _, _, h7, _⟩ := tinfo_some h
  rw [h7] at hf
  cases d with
  | struct fs =>
    simp only [List.getElem?_map, Option.map_eq_some_iff, Prod.mk.injEq] at hf
    obtain ⟨fl, e1, e2, e3⟩ := hf
    cases hi : P.info? fl.type with
    | none => rw [hi] at e3; simp at e3
    | some inf => rw [hi] at e3; exact ⟨fs, fl, inf, h2, by simpa using e1, e2, hi, e3⟩
  | _ => simp at hf
theorem tinfo_elem {P : Program} {t : TypeId} {i : TI} {e : TypeId} (h : tinfo P t = some i) (he : i.elem = some e) : P.underlying t = some (.slice e) := by
  obtain ⟨inf, d, _, h2, _, _, _, _, _, h8⟩ := tinfo_some h
  rw [h8] at he
  cases d with
  | slice e' => simp at he; rw [h2, he]
  | _ => simp at he
theorem addr_add (b off n : Nat) : (⟨b, off, none⟩ : Addr).add n = ⟨b, off + n, none⟩ := by
  unfold Addr.add
  split
  · rename_i h; subst h; rfl
  · rfl

theorem run_fieldAt {P : Program} {s : TypeId} {i : TI} {f off n : Nat} (h : tinfo P s = some i) (hf : i.fld[f]? = some (off, n + 1)) (b o : Nat) (w : World) :
    (Instr.fieldAt s (.pointer (some ⟨b, o, none⟩)) f).run P w = .ok (.pointer (some ⟨b, o + off, none⟩)) w := by
  obtain ⟨fs, fl, inf, h1, h2, h3, h4, h5⟩ := tinfo_fld h hf
  simp [Instr.fieldAt, underlying, h1, h2, Instr.sureAddr, fieldPlace, Go.sizeOf, typeInfo, h4, h5, addr_add, h3]

theorem PRep.path_cons {g : Gh} {r : Root} {c : Nat} {h : Hop} {q : List Hop} {v : Value} : PRep g ⟨r, c, h :: q⟩ v ↔ ∃ b off n cap, g.hd ⟨r, c, q⟩ = .slice (some ⟨b, off, none⟩) n cap ∧ v = .pointer (some ⟨b, off + h.i * h.sz + h.c, none⟩) := Iff.rfl
theorem PRep.path_nil {g : Gh} {r : Root} {c : Nat} {v : Value} : PRep g ⟨r, c, []⟩ v ↔ ∃ k, r = .obj k ∧ v = .pointer (some ⟨(g.bl k).1, (g.bl k).2.1 + c, none⟩) := Iff.rfl

theorem ok_fieldAddr (hN : okOper N o = true) {s : TypeId} {x : Operand} {f : Nat} (ho : o.op = .fieldAddr s x f) (h : ((astep E.P o).run σ).ok) : OpOK E N o σ ((astep E.P o).run σ).upd := by
  have hopd : okOpd x = true := okOper_opd hN (by rw [ho]; simp [Op.operands])
  simp only [astep, ho] at h ⊢
  cases hi : tinfo E.P s with
  | none => rw [hi] at h; exact h.elim
  | some i =>
    rw [hi] at h
    simp only at h ⊢
    cases hf : i.fld[f]? with
    | none => rw [hf] at h; exact h.elim
    | some p =>
      obtain ⟨off, n⟩ := p
      cases n with
      | zero => rw [hf] at h; exact h.elim
      | succ n =>
        rw [hf] at h
        simp only at h ⊢
        obtain ⟨sv, e1, hr, e2⟩ := rdS_ok h
        rw [e1] at h ⊢
        rcases sv with ((t | p | ⟨r, c, _ | ⟨hp, q⟩⟩ | ⟨row, c⟩ | _ | _) | _ | _)
        case c.ptr.nil =>
          refine OpOK.pure hN h rfl fun a w g hc hl => ?_
          have hx := e2 E a w g hc hl hopd .ret
          cases hx; rename_i hx
          obtain ⟨k, rfl, hv⟩ := PRep.path_nil.1 (hx.ptr_val (.inl rfl))
          refine ⟨.pointer (some ⟨(g.bl k).1, (g.bl k).2.1 + c + off, none⟩), ?_, fun r' => .c (.ptr (fun e => absurd rfl e) (fun _ => PRep.path_nil.2 ⟨k, rfl, by rw [Nat.add_assoc]⟩) rfl), fun r hq => hr r (by simpa [SV.roots, C.roots] using hq) _ _ _ _ hc⟩
          simp only [execOp, ho, hv]
          simp [run_fieldAt hi hf]
        case c.ptr.cons =>
          simp only at h ⊢
          obtain ⟨t, ep, hd, _⟩ := place_ok h
          rw [ep] at h ⊢
          refine OpOK.pure hN h rfl fun a w g hc hl => ?_
          have hx := e2 E a w g hc hl hopd .ret
          cases hx; rename_i hx
          obtain ⟨b, o', m, cap, h1, hv⟩ := PRep.path_cons.1 (hx.ptr_val (.inr hd))
          refine ⟨.pointer (some ⟨b, o' + hp.i * hp.sz + hp.c + off, none⟩), ?_, fun r' => .c (.ptr (fun _ _ => PRep.path_cons.2 ⟨b, o', m, cap, h1, by rw [Nat.add_assoc _ hp.c off]⟩) (fun e => by cases e) rfl), fun r hq => hr r (by simpa [SV.roots, C.roots] using hq) _ _ _ _ hc⟩
          simp only [execOp, ho, hv]
          simp [run_fieldAt hi hf]
        case c.fp =>
          refine OpOK.pure hN h rfl fun a w g hc hl => ?_
          have hx := e2 E a w g hc hl hopd .ret
          cases hx; rename_i hx
          generalize hv : a.eval x = v at hx
          cases hx with
          | fp vs hh ho' hcell hrec =>
            rename_i b o' cs el fr
            refine ⟨.pointer (some ⟨b, o' + (c + off), none⟩), ?_, fun r' => .c (.fp vs hh ho' hcell hrec), fun r hq => by simp [SV.roots, C.roots] at hq⟩
            simp only [execOp, ho, hv]
            simp [run_fieldAt hi hf, Nat.add_assoc]
        all_goals exact h.elim
end
end Vx

namespace Vx
open Go Classical
set_option linter.unusedSimpArgs false
set_option linter.unusedVariables false

theorem run_sizeOf {P : Program} {t : TypeId} {i : TI} (h : tinfo P t = some i) (w : World) : (Go.sizeOf t).run P w = .ok i.size w := by
  obtain ⟨inf, d, h1, h2, h3, _⟩ := tinfo_some h
  simp [Go.sizeOf, typeInfo, h1, h3]
theorem run_isAgg {P : Program} {t : TypeId} {i : TI} (h : tinfo P t = some i) (w : World) : (isAgg t).run P w = .ok i.agg w := by
  obtain ⟨inf, d, h1, h2, h3, h4, h5, h6, _⟩ := tinfo_some h
  simp only [isAgg, underlying, Sem.run_bind, run_program, Result.andThen_ok, h2, Sem.run_pure, h6]
  cases d <;> rfl
theorem run_indexAt {P : Program} {t e : TypeId} {i ei : TI} (h : tinfo P t = some i) (he : i.elem = some e) (hei : tinfo P e = some ei) (b off n cap : Nat) (k : IntKind) (x : Int) (h0 : 0 ≤ x) (hn : x.toNat < n) (w : World) :
    (Instr.indexAt t (.slice (some ⟨b, off, none⟩) n cap) (.int k x)).run P w = .ok (.pointer (some ⟨b, off + x.toNat * ei.size, none⟩)) w := by
  have hu := tinfo_elem h he
  have hlt : x < (n : Int) := by omega
  have h1 : (underlying t).run P w = .ok (.slice e) w := by simp [underlying, hu]
  simp [Instr.indexAt, asIntOf, h1, h0, hlt, run_sizeOf hei, addr_add]

theorem lt_of_getElem? {α : Type} {l : List α} {i : Nat} {x : α} (h : l[i]? = some x) : i < l.length := by
  rcases Nat.lt_or_ge i l.length with k | k
  · exact k
  · rw [List.getElem?_eq_none k] at h; exact absurd h (by simp)

section
variable {E : Env} {N : Nat} {o : Oper} {σ : Sg}

theorem ok_indexAddr (hN : okOper N o = true) {t : TypeId} {x ix : Operand} (ho : o.op = .indexAddr t x ix) (h : ((astep E.P o).run σ).ok) : OpOK E N o σ ((astep E.P o).run σ).upd := by
  have hopx : okOpd x = true := okOper_opd hN (by rw [ho]; simp [Op.operands])
  have hopi : okOpd ix = true := okOper_opd hN (by rw [ho]; simp [Op.operands])
  simp only [astep, ho] at h ⊢
  unfold stepIndex at h ⊢
  cases hi : tinfo E.P t with
  | none => rw [hi] at h; exact h.elim
  | some i =>
    obtain ⟨kd, agg, size, bytes, zero, fld, el⟩ := i
    cases el with
    | none => rw [hi] at h; exact h.elim
    | some e =>
      rw [hi] at h
      simp only at h ⊢
      cases hei : tinfo E.P e with
      | none => rw [hei] at h; exact h.elim
      | some ei =>
        rw [hei] at h
        simp only at h ⊢
        obtain ⟨sv, e1, hr, e2⟩ := rdS_ok h
        rw [e1] at h ⊢
        obtain ⟨ti, e3, r2⟩ := rdT_ok h
        rw [e3] at h ⊢
        cases ti with
        | int k n =>
          simp only at h ⊢
          have hidx : ∀ (a : Act) w g, Core E σ a.tmps w g → LIM ≤ g.lim → a.eval ix = .int k n := by
            intro a w g hc hl
            obtain ⟨r, hx⟩ := r2 E a w g hc hl hopi
            cases hx; rename_i hx
            generalize a.eval ix = v at hx
            cases hx; rfl
          rcases sv with ((tt | p | p | ⟨row, c⟩ | _ | _) | _ | _)
          case c.t =>
            rcases tt with _ | _ | _ | _ | _ | _ | _ | ⟨ob, sz, xs⟩
            case sl =>
              cases ob with
              | false =>
                simp only at h ⊢
                by_cases hsz : sz = ei.size
                · rw [if_pos hsz] at h ⊢
                  cases hrow : xs[n.toNat]? with
                  | none => rw [hrow] at h; exact h.elim
                  | some row =>
                    rw [hrow] at h
                    simp only at h ⊢
                    obtain ⟨h0, _⟩ := put_ok h
                    refine OpOK.pure hN h rfl fun a w g hc hl => ?_
                    have hv := hidx a w g hc hl
                    have hx := e2 E a w g hc hl hopx .ret
                    cases hx; rename_i hx
                    cases hx; rename_i hx
                    have hx := hx.isFro (by intro _ _ e; cases e)
                    have hlt := lt_of_getElem? hrow
                    generalize hval : a.eval x = v at hx
                    cases hx with
                    | fnil => simp at hrow
                    | fz vs hh ho' hcap hlim hrw hcell hrec =>
                      rename_i b off cap cs el' fr
                      refine ⟨.pointer (some ⟨b, off + n.toNat * ei.size + 0, none⟩), ?_, fun r' => .c (.fp (vs n.toNat) hh ho' (fun j hj => ?_) (fun j y hj => ?_)), by simp [SV.roots, C.roots]⟩
                      · simp only [execOp, ho, hval, hv]
                        simp [run_indexAt hi rfl hei b off _ cap k n h0 hlt]
                      · rw [← hsz]
                        exact hcell _ _ hlt (by rw [← hrw row (List.mem_of_getElem? hrow)]; exact hj)
                      · exact hrec _ _ _ _ hrow hj
                · rw [if_neg hsz] at h; exact h.elim
              | true => exact h.elim
            all_goals exact h.elim
          case c.ref =>
            simp only at h ⊢
            obtain ⟨t0, tt, ed, hat, hd, hex, p1, p2, p3⟩ := deref_ok h
            rw [ed] at h ⊢
            rcases tt with _ | _ | _ | _ | _ | _ | _ | ⟨ob, sz, xs⟩
            case sl =>
              cases ob with
              | false => exact h.elim
              | true =>
                simp only at h ⊢
                by_cases hsz : sz = ei.size
                · rw [if_pos hsz] at h ⊢
                  cases hrow : xs[n.toNat]? with
                  | none => rw [hrow] at h; exact h.elim
                  | some row =>
                    rw [hrow] at h
                    simp only at h ⊢
                    obtain ⟨h0, _⟩ := put_ok h
                    refine OpOK.pure hN h rfl fun a w g hc hl => ?_
                    have hv := hidx a w g hc hl
                    have hx := e2 E a w g hc hl hopx .ret
                    cases hx; rename_i hx
                    have hlt := lt_of_getElem? hrow
                    obtain ⟨u, hu⟩ := hc.deref hat p1 p2 p3
                    have hval : a.eval x = g.hd p := by cases hx with | ref h _ => exact h hd
                    have huv : u = g.hd p := hu.own_hd
                    cases hu with
                    | fro h => exact h.noOwn.elim
                    | onil => simp at hrow
                    | own vs hd' hh ho' hsize hcap hlim hrw hcell hrec =>
                      rename_i b off cap cs el'
                      refine ⟨.pointer (some ⟨b, off + n.toNat * sz + 0, none⟩), ?_, fun r' => .c (.ptr (fun _ _ => PRep.path_cons.2 ⟨b, off, _, cap, hd', rfl⟩) (fun e => by cases e) rfl), fun r hq => ?_⟩
                      · simp only [execOp, ho, hval, hd', hv]
                        simp [run_indexAt hi rfl hei b off _ cap k n h0 hlt, hsz]
                      · simp only [SV.roots, C.roots, List.mem_singleton] at hq
                        rw [hq]
                        exact hex
                · rw [if_neg hsz] at h; exact h.elim
            all_goals exact h.elim
          all_goals exact h.elim
        | _ => exact h.elim
end
end Vx

namespace Vx
open Go Classical
set_option linter.unusedSimpArgs false
set_option linter.unusedVariables false

theorem builtin_len' (ats : Array TypeId) (ty : TypeId) (cs : Array Bool) (args : Array Value) : builtin .len ats ty cs args = (do pure (.value (← Builtin.len_ ats ty args))) := rfl
theorem exec_builtin {ρ : Operand → Value} {o : Oper} {b : Builtin} {xs : Array Operand} {ts : Array TypeId} (ho : o.op = .call { callee := .builtin b, args := xs, argTypes := ts }) :
    ∃ cs, execOp ρ o = builtin b ts o.type cs (xs.map ρ) := ⟨xs.map fun | .const _ => true | _ => false, by simp only [execOp, ho, resolve, invoke]; rfl⟩

section
variable {E : Env} {N : Nat} {o : Oper} {σ : Sg}

theorem FRep.len {w : World} {g : Gh} {t : T} {v : Value} {n : Nat} {P : Program} {ty t' : TypeId} (h : FRep w g t v) (hl : (isStrT P t' || isSlT P t') = true) (hn : lenT (isStrT P t') t = some n) :
    (Builtin.len_ #[t'] ty #[v]).run P w = .ok (.int .i64 n) w := by
  cases hs : isStrT P t' with
  | true =>
    rw [hs] at hn
    have hu := isStrT_un hs
    have h1 : (underlying t').run P w = .ok .string w := by simp [underlying, hu]
    cases h <;> simp [lenT] at hn
    subst hn
    simp [Builtin.len_, h1, goInt]
  | false =>
    rw [hs] at hn hl
    obtain ⟨e, hu⟩ := isSlT_un (by simpa using hl)
    have h1 : (underlying t').run P w = .ok (.slice e) w := by simp [underlying, hu]
    cases h <;> simp [lenT] at hn <;> subst hn <;> simp [Builtin.len_, h1, goInt]
theorem Rep.len {w : World} {g : Gh} {a : CA} {t : T} {v : Value} {n : Nat} {P : Program} {ty t' : TypeId} (h : Rep w g a t v) (hl : (isStrT P t' || isSlT P t') = true) (hn : lenT (isStrT P t') t = some n) :
    (Builtin.len_ #[t'] ty #[v]).run P w = .ok (.int .i64 n) w := by
  cases h with
  | fro h => exact h.len hl hn
  | onil =>
    cases hs : isStrT P t' with
    | true => rw [hs] at hn; simp [lenT] at hn
    | false =>
      rw [hs] at hn hl
      obtain ⟨e, hu⟩ := isSlT_un (by simpa using hl)
      have h1 : (underlying t').run P w = .ok (.slice e) w := by simp [underlying, hu]
      simp [lenT] at hn; subst hn; simp [Builtin.len_, h1, goInt]
  | own =>
    cases hs : isStrT P t' with
    | true => rw [hs] at hn; simp [lenT] at hn
    | false =>
      rw [hs] at hn hl
      obtain ⟨e, hu⟩ := isSlT_un (by simpa using hl)
      have h1 : (underlying t').run P w = .ok (.slice e) w := by simp [underlying, hu]
      simp [lenT] at hn; subst hn; simp [Builtin.len_, h1, goInt]

theorem ok_len (hN : okOper N o = true) {xs : Array Operand} {ts : Array TypeId} (ho : o.op = .call { callee := .builtin .len, args := xs, argTypes := ts }) (h : ((astep E.P o).run σ).ok) : OpOK E N o σ ((astep E.P o).run σ).upd := by
  simp only [astep, ho] at h ⊢
  rcases hxs : xs.toList with _ | ⟨x, _ | ⟨y, l⟩⟩
  · rw [hxs] at h; exact h.elim
  · rw [hxs] at h
    rcases hts : ts.toList with _ | ⟨t, _ | ⟨u, l⟩⟩
    · rw [hts] at h; exact h.elim
    · rw [hts] at h
      have exs : xs = #[x] := by cases xs; simp at hxs; simp [hxs]
      have ets : ts = #[t] := by cases ts; simp at hts; simp [hts]
      subst exs ets
      simp only at h ⊢
      unfold stepLen at h ⊢
      cases hl : isStrT E.P t || isSlT E.P t with
      | false => rw [hl] at h; exact h.elim
      | true =>
        rw [hl] at h
        simp only [if_true] at h ⊢
        obtain ⟨sv, e1, hr, e2⟩ := rdS_ok h
        rw [e1] at h ⊢
        have hopd : okOpd x = true := okOper_opd hN (by rw [ho]; simp [Op.operands, Call.operands])
        have hex : ∀ (a : Act) w v n, a.eval x = v → (Builtin.len_ #[t] o.type #[v]).run E.P w = .ok (.int .i64 n) w → (execOp a.eval o).run E.P w = .ok (.value (.int .i64 n)) w := by
          intro a w v n hv hrun
          obtain ⟨cs, he⟩ := exec_builtin (ρ := a.eval) ho
          rw [he, builtin_len']
          simp [hv, hrun]
        rcases sv with ((tt | p | p | ⟨row, c⟩ | _ | _) | _ | _)
        case c.t =>
          simp only at h ⊢
          cases hn : lenT (isStrT E.P t) tt with
          | none => rw [hn] at h; exact h.elim
          | some n =>
            rw [hn] at h
            simp only at h ⊢
            refine OpOK.pure hN h rfl fun a w g hc hl' => ?_
            have hx := e2 E a w g hc hl' hopd .ret
            cases hx; rename_i hx
            cases hx; rename_i hx
            exact ⟨.int .i64 n, hex a w _ _ rfl (hx.len hl hn), fun r => .c (.t (.fro .int)), by simp [SV.roots, C.roots]⟩
        case c.ref =>
          simp only at h ⊢
          obtain ⟨t0, tt, ed, hat, hd, hexr, p1, p2, p3⟩ := deref_ok h
          rw [ed] at h ⊢
          rcases tt with _ | _ | _ | _ | _ | _ | _ | ⟨ob, sz, ys⟩
          case sl =>
            cases ob with
            | false => exact h.elim
            | true =>
              simp only at h ⊢
              cases hs : isStrT E.P t with
              | true => rw [hs] at h; exact h.elim
              | false =>
                rw [hs] at h
                simp only [Bool.false_eq_true, if_false] at h ⊢
                refine OpOK.pure hN h rfl fun a w g hc hl' => ?_
                have hx := e2 E a w g hc hl' hopd .ret
                cases hx; rename_i hx
                obtain ⟨u, hu⟩ := hc.deref hat p1 p2 p3
                have hval : a.eval x = g.hd p := by cases hx with | ref h _ => exact h hd
                refine ⟨.int .i64 ys.length, hex a w u _ ?_ (hu.len hl (by rw [hs]; rfl)), fun r => .c (.t (.fro .int)), by simp [SV.roots, C.roots]⟩
                rw [hval, hu.own_hd]
          all_goals exact h.elim
        all_goals exact h.elim
    · rw [hts] at h; exact h.elim
  · rw [hxs] at h; exact h.elim
end
end Vx

namespace Vx
open Go Classical
set_option linter.unusedSimpArgs false
set_option linter.unusedVariables false

theorem cell_of {w : World} {b o : Nat} {cs : Array Value} {el : TypeId} {fr : Nat × Nat} (h : w.heap[b]? = some (.cells cs el fr)) : w.cell? ⟨b, o, none⟩ = cs[o]? := by
  simp [World.cell?, h]
theorem run_loadAt_scalar {P : Program} {t : TypeId} {i : TI} (h : tinfo P t = some i) (ha : i.agg = false) {b o : Nat} {w : World} {v : Value} (hc : w.cell? ⟨b, o, none⟩ = some v) :
    (Instr.loadAt t (.pointer (some ⟨b, o, none⟩))).run P w = .ok v w := by
  simp [Instr.loadAt, Instr.sureAddr, loadVar, run_isAgg h, ha, hc]
theorem run_loadAt_agg {P : Program} {t : TypeId} {i : TI} (h : tinfo P t = some i) (ha : i.agg = true) {b o : Nat} {w : World} (f : Nat → Value) (hc : ∀ j, j < i.size → w.cell? ⟨b, o + j, none⟩ = some (f j)) :
    (Instr.loadAt t (.pointer (some ⟨b, o, none⟩))).run P w = .ok (.agg ((List.range i.size).map f).toArray) w := by
  have h1 := run_loadCells (P := P) w ⟨b, o, none⟩ i.size f (fun j hj => by rw [addr_add]; exact hc j hj)
  simp [Instr.loadAt, Instr.sureAddr, loadVar, run_isAgg h, ha, run_sizeOf h, h1]

theorem atCells_spec {t : T} : ∀ {n : Nat} {h : Hop} {q : List Hop} {l : List T}, atCells t h q n = some l → l.length = n ∧ ∀ j x, l[j]? = some x → t.at ({ h with c := h.c + j } :: q) = some x
  | 0, h, q, l, e => by simp [atCells] at e; subst e; simp
  | n + 1, h, q, l, e => by
    simp only [atCells, Option.bind_eq_some_iff, Option.map_eq_some_iff] at e
    obtain ⟨x, h1, l', h2, rfl⟩ := e
    obtain ⟨e1, e2⟩ := atCells_spec h2
    refine ⟨by simp [e1], fun j y hj => ?_⟩
    cases j with
    | zero => simp at hj; subst hj; simpa using h1
    | succ j =>
      simp only [List.getElem?_cons_succ] at hj
      have := e2 j y hj
      simp only [Nat.add_assoc, Nat.add_comm 1 j] at this
      exact this
theorem readCells_run {σ : Sg} {k : Nat} : ∀ {n c : Nat} {f : List C → Rd Eff}, (readCells k c n f).run σ = (f ((List.range n).map fun j => (σ.cell k (c + j)).alias ⟨.obj k, c + j, []⟩)).run σ
  | 0, c, f => by simp [readCells]
  | n + 1, c, f => by
    simp only [readCells, Rd.run]
    rw [readCells_run]
    simp only [List.range_succ_eq_map, List.map_cons, List.map_map, Nat.add_zero]
    congr 3
    apply List.map_congr_left
    intro j _
    simp [Nat.add_assoc, Nat.add_comm 1 j]
theorem aliasHop_get {a : CA} : ∀ {l : List T} {h : Hop} {j : Nat} {x : C}, (aliasHop a h l)[j]? = some x → ∃ y, l[j]? = some y ∧ x = (C.t y).alias { a with path := { h with c := h.c + j } :: a.path }
  | [], h, j, x, e => by simp [aliasHop] at e
  | y :: l, h, 0, x, e => by simp [aliasHop] at e; exact ⟨y, rfl, by rw [← e]; simp⟩
  | y :: l, h, j + 1, x, e => by
    simp only [aliasHop, List.getElem?_cons_succ] at e ⊢
    obtain ⟨z, h1, h2⟩ := aliasHop_get e
    exact ⟨z, h1, by rw [h2]; simp [Nat.add_assoc, Nat.add_comm 1 j]⟩
theorem aliasHop_length (a : CA) : ∀ (l : List T) (h : Hop), (aliasHop a h l).length = l.length
  | [], _ => rfl
  | _ :: l, h => by simp [aliasHop, aliasHop_length a l]
theorem aliasHop_roots (a : CA) : ∀ (l : List T) (h : Hop), ∀ r ∈ C.rootsL (aliasHop a h l), r = a.root
  | [], _, r, e => by simp [aliasHop, C.rootsL] at e
  | x :: l, h, r, e => by
    simp only [aliasHop, C.rootsL, List.mem_append] at e
    rcases e with e | e
    · rcases C.alias_roots _ _ r e with e | e
      · exact e
      · simp [C.roots] at e
    · exact aliasHop_roots a l _ r e

/-- What a pointer into an owned slice reads. -/
theorem Core.atPath {E : Env} {σ : Sg} {tmps : Array Value} {w : World} {g : Gh} (hc : Core E σ tmps w g) {r : Root} {c : Nat} {t x : T} {h : Hop} {q : List Hop}
    (h1 : ∀ n, (r = .slot n ∨ r = .new n) → r = σ.rt n ∧ (σ.slot n).cellAt c = some (.t t)) (h2 : ∀ k, r = .obj k → σ.inr k c = true ∧ σ.cell k c = .t t) (h3 : r ≠ .ret)
    (hx : t.at (h :: q) = some x) {b off n cap : Nat} (hhd : g.hd ⟨r, c, q⟩ = .slice (some ⟨b, off, none⟩) n cap) :
    ∃ u, w.cell? ⟨b, off + h.i * h.sz + h.c, none⟩ = some u ∧ Rep w g ⟨r, c, h :: q⟩ x u := by
  obtain ⟨v, hv⟩ := hc.place h1 h2 h3
  simp only [T.at] at hx
  cases hy : t.at q with
  | none => rw [hy] at hx; cases hx
  | some y =>
    rw [hy] at hx
    simp only [Option.bind_some] at hx
    obtain ⟨u, hu, _⟩ := hv.at hy
    obtain ⟨b', off', n', cap', cs, el, u2, e1, e2, e3, e4, _, e6, e7⟩ := hu.sub hx
    have ego : (⟨r, c, []⟩ : CA).go q = ⟨r, c, q⟩ := by simp [CA.go]
    rw [ego] at e2 e7
    rw [e1, hhd] at e2
    cases e2
    exact ⟨u2, by rw [cell_of e4]; exact e6, e7⟩

theorem Rep.aliasT {w : World} {g : Gh} {d : Dirt} {a : CA} {x : T} {v : Value} (h : Rep w g a x v) (a' : CA) : CRep w g d a' ((C.t x).alias a) v := (CRep.t h).alias a'

section
variable {E : Env} {N : Nat} {o : Oper} {σ : Sg}

theorem ok_load (hN : okOper N o = true) {t : TypeId} {p : Operand} (ho : o.op = .load t p) (h : ((astep E.P o).run σ).ok) : OpOK E N o σ ((astep E.P o).run σ).upd := by
  have hopd : okOpd p = true := okOper_opd hN (by rw [ho]; simp [Op.operands])
  simp only [astep, ho] at h ⊢
  unfold stepLoad at h ⊢
  cases hi : tinfo E.P t with
  | none => rw [hi] at h; exact h.elim
  | some i =>
    rw [hi] at h
    simp only at h ⊢
    have hex : ∀ (a : Act) w v b off, a.eval p = .pointer (some ⟨b, off, none⟩) → (Instr.loadAt t (.pointer (some ⟨b, off, none⟩))).run E.P w = .ok v w → (execOp a.eval o).run E.P w = .ok (.value v) w := by
      intro a w v b off hv hrun
      simp [execOp, ho, hv, hrun]
    obtain ⟨sv, e1, hr, e2⟩ := rdS_ok h
    rw [e1] at h ⊢
    rcases sv with ((tt | pp | ⟨r, c, _ | ⟨hp, q⟩⟩ | ⟨row, c⟩ | _ | _) | _ | _)
    case c.fp =>
      simp only at h ⊢
      cases ha : i.agg with
      | true =>
        rw [ha] at h
        simp only [if_true] at h ⊢
        obtain ⟨hle, _⟩ := put_ok h
        refine OpOK.pure hN h rfl fun a w g hc hl => ?_
        have hx := e2 E a w g hc hl hopd .ret
        cases hx; rename_i hx
        generalize hv : a.eval p = v at hx
        cases hx with
        | fp vs hh ho' hcell hrec =>
          rename_i b off cs el fr
          refine ⟨.agg ((List.range i.size).map fun j => vs (c + j)).toArray, hex a w _ b (off + c) hv (run_loadAt_agg hi ha _ fun j hj => ?_), fun r' => ?_, fun r hq => ?_⟩
          · rw [cell_of hh, Nat.add_assoc]; exact hcell _ (by omega)
          · have hlen : (((row.drop c).take i.size).map C.t).length = i.size := by simp; omega
            have := SVRep.agg (w := w) (g := g) (d := σ.dirty) (r := r') (n := 0) (row := ((row.drop c).take i.size).map C.t) (fun j => vs (c + j)) (fun j x hj => by
              simp only [List.getElem?_map, Option.map_eq_some_iff] at hj
              obtain ⟨y, h1, rfl⟩ := hj
              have h2 : row[c + j]? = some y := by
                rw [List.getElem?_take] at h1
                split at h1
                · rw [List.getElem?_drop] at h1; exact h1
                · cases h1
              exact .t (.fro (hrec _ _ h2)))
            rw [hlen] at this
            exact this
          · simp only [SV.roots] at hq
            obtain ⟨x, hx1, hx2⟩ := C.mem_rootsL.1 hq
            obtain ⟨y, _, rfl⟩ := List.mem_map.1 hx1
            simp [C.roots] at hx2
      | false =>
        rw [ha] at h
        simp only [Bool.false_eq_true, if_false] at h ⊢
        cases hrow : row[c]? with
        | none => rw [hrow] at h; exact h.elim
        | some x =>
          rw [hrow] at h
          simp only at h ⊢
          refine OpOK.pure hN h rfl fun a w g hc hl => ?_
          have hx := e2 E a w g hc hl hopd .ret
          cases hx; rename_i hx
          generalize hv : a.eval p = v at hx
          cases hx with
          | fp vs hh ho' hcell hrec =>
            rename_i b off cs el fr
            refine ⟨vs c, hex a w _ b (off + c) hv (run_loadAt_scalar hi ha ?_), fun r' => .c (.t (.fro (hrec _ _ hrow))), by simp [SV.roots, C.roots]⟩
            rw [cell_of hh]; exact hcell _ (lt_of_getElem? hrow)
    case c.ptr.nil =>
      cases r with
      | obj k =>
        simp only [Rd.run] at h ⊢
        cases hk : σ.kind k with
        | none => rw [hk] at h; exact h.elim
        | some kd =>
          cases kd with
          | virt => rw [hk] at h; exact h.elim
          | box m =>
            rw [hk] at h
            simp only at h ⊢
            cases ha : i.agg with
            | true =>
              rw [ha] at h
              simp only [if_true] at h ⊢
              rw [readCells_run] at h ⊢
              obtain ⟨hle, _⟩ := put_ok h
              refine OpOK.pure hN h rfl fun a w g hc hl => ?_
              have hx := e2 E a w g hc hl hopd .ret
              cases hx; rename_i hx
              obtain ⟨k', ek, hv⟩ := PRep.path_nil.1 (hx.ptr_val (.inl rfl))
              cases ek
              obtain ⟨cs, el, b1, b2, b3, b4, b5⟩ := hc.objs k _ hk
              have hch : ∀ j, ∃ u, c + j < m → cs[(g.bl k).2.1 + (c + j)]? = some u ∧ CRep w g σ.dirty ⟨.obj k, c + j, []⟩ (σ.cell k (c + j)) u := by
                intro j
                by_cases e : c + j < m
                · obtain ⟨u, h1, h2⟩ := b5 _ e
                  exact ⟨u, fun _ => ⟨h1, h2⟩⟩
                · exact ⟨undef, fun e' => absurd e' e⟩
              let vs : Nat → Value := fun j => choose (hch j)
              have hvs : ∀ j, c + j < m → cs[(g.bl k).2.1 + (c + j)]? = some (vs j) ∧ CRep w g σ.dirty ⟨.obj k, c + j, []⟩ (σ.cell k (c + j)) (vs j) := fun j => choose_spec (hch j)
              refine ⟨.agg ((List.range i.size).map vs).toArray, hex a w _ _ _ hv (run_loadAt_agg hi ha _ fun j hj => ?_), fun r' => ?_, fun r hq => ?_⟩
              · rw [cell_of b1, Nat.add_assoc]; exact (hvs j (by omega)).1
              · have := SVRep.agg (w := w) (g := g) (d := σ.dirty) (r := r') (n := 0) (row := (List.range i.size).map fun j => (σ.cell k (c + j)).alias ⟨.obj k, c + j, []⟩) vs (fun j x hj => by
                  simp only [List.getElem?_map, Option.map_eq_some_iff] at hj
                  obtain ⟨j', h1, rfl⟩ := hj
                  have hjl := lt_of_getElem? h1
                  simp at hjl
                  rw [List.getElem?_range hjl] at h1
                  cases h1
                  exact ((hvs j (by omega)).2).alias _)
                simp only [List.length_map, List.length_range] at this
                exact this
              · simp only [SV.roots] at hq
                obtain ⟨x, hx1, hx2⟩ := C.mem_rootsL.1 hq
                obtain ⟨j, _, rfl⟩ := List.mem_map.1 hx1
                rcases C.alias_roots _ _ r hx2 with e | e
                · rw [e]; exact .inr (.inl (by rw [hk]; simp))
                · exact hc.liveC _ _ _ e
            | false =>
              rw [ha] at h
              simp only [Bool.false_eq_true, if_false, Rd.run] at h ⊢
              obtain ⟨⟨hlt, hsz⟩, _⟩ := put_ok h
              refine OpOK.pure hN h rfl fun a w g hc hl => ?_
              have hx := e2 E a w g hc hl hopd .ret
              cases hx; rename_i hx
              obtain ⟨k', ek, hv⟩ := PRep.path_nil.1 (hx.ptr_val (.inl rfl))
              cases ek
              obtain ⟨cs, el, b1, b2, b3, b4, b5⟩ := hc.objs k _ hk
              obtain ⟨u, h1, h2⟩ := b5 c hlt
              refine ⟨u, hex a w _ _ _ hv (run_loadAt_scalar hi ha ?_), fun r' => .c (h2.alias _), fun r hq => ?_⟩
              · rw [cell_of b1]; exact h1
              · rcases C.alias_roots _ _ r hq with e | e
                · rw [e]; exact .inr (.inl (by rw [hk]; simp))
                · exact hc.liveC _ _ _ e
      | _ => exact h.elim
    case c.ptr.cons =>
      have hplace : ((place r c fun t => if i.agg then match atCells t hp q i.size with
          | some l => put o (.agg (aliasHop ⟨r, c, q⟩ hp l)) [] True
          | none => fail
        else match t.at (hp :: q) with
          | some x => put o (.c ((C.t x).alias ⟨r, c, hp :: q⟩)) [] (i.size = 1)
          | none => fail).run σ).ok := by cases r <;> exact h
      have hg2 : ∀ (A : Rd Eff), A = place r c (fun t => if i.agg then match atCells t hp q i.size with
          | some l => put o (.agg (aliasHop ⟨r, c, q⟩ hp l)) [] True
          | none => fail
        else match t.at (hp :: q) with
          | some x => put o (.c ((C.t x).alias ⟨r, c, hp :: q⟩)) [] (i.size = 1)
          | none => fail) → OpOK E N o σ (A.run σ).upd := by
        rintro A rfl
        obtain ⟨tt, ep, hd, hex', p1, p2, p3⟩ := place_ok hplace
        rw [ep] at hplace ⊢
        cases ha : i.agg with
        | true =>
          rw [ha] at hplace
          simp only [if_true] at hplace ⊢
          cases hl : atCells tt hp q i.size with
          | none => rw [hl] at hplace; exact hplace.elim
          | some l =>
            rw [hl] at hplace
            simp only at hplace ⊢
            obtain ⟨hlen, hat⟩ := atCells_spec hl
            refine OpOK.pure hN hplace rfl fun a w g hc hlim => ?_
            have hx := e2 E a w g hc hlim hopd .ret
            cases hx; rename_i hx
            obtain ⟨b, off, m, cap, hhd, hv⟩ := PRep.path_cons.1 (hx.ptr_val (.inr hd))
            have hch : ∀ j, ∃ u, ∀ x, l[j]? = some x → w.cell? ⟨b, off + hp.i * hp.sz + hp.c + j, none⟩ = some u ∧ Rep w g ⟨r, c, { hp with c := hp.c + j } :: q⟩ x u := by
              intro j
              cases hj : l[j]? with
              | none => exact ⟨undef, fun x e => by cases e⟩
              | some x =>
                obtain ⟨u, h1, h2⟩ := hc.atPath p1 p2 p3 (hat j x hj) hhd
                exact ⟨u, fun y e => by cases e; exact ⟨by rw [Nat.add_assoc]; exact h1, h2⟩⟩
            let vs : Nat → Value := fun j => choose (hch j)
            have hvs : ∀ j x, l[j]? = some x → w.cell? ⟨b, off + hp.i * hp.sz + hp.c + j, none⟩ = some (vs j) ∧ Rep w g ⟨r, c, { hp with c := hp.c + j } :: q⟩ x (vs j) := fun j => choose_spec (hch j)
            refine ⟨.agg ((List.range i.size).map vs).toArray, hex a w _ _ _ hv (run_loadAt_agg hi ha _ fun j hj => ?_), fun r' => ?_, fun r2 hq => ?_⟩
            · rw [← hlen] at hj
              exact (hvs j l[j] (List.getElem?_eq_getElem hj)).1
            · have := SVRep.agg (w := w) (g := g) (d := σ.dirty) (r := r') (n := 0) (row := aliasHop ⟨r, c, q⟩ hp l) vs (fun j x hj => by
                obtain ⟨y, h1, rfl⟩ := aliasHop_get hj
                exact ((hvs j y h1).2).aliasT _)
              rw [aliasHop_length, hlen] at this
              exact this
            · simp only [SV.roots] at hq
              rw [aliasHop_roots _ _ _ _ hq]
              exact hex'
        | false =>
          rw [ha] at hplace
          simp only [Bool.false_eq_true, if_false] at hplace ⊢
          cases hl : tt.at (hp :: q) with
          | none => rw [hl] at hplace; exact hplace.elim
          | some x =>
            rw [hl] at hplace
            simp only at hplace ⊢
            refine OpOK.pure hN hplace rfl fun a w g hc hlim => ?_
            have hx := e2 E a w g hc hlim hopd .ret
            cases hx; rename_i hx
            obtain ⟨b, off, m, cap, hhd, hv⟩ := PRep.path_cons.1 (hx.ptr_val (.inr hd))
            obtain ⟨u, h1, h2⟩ := hc.atPath p1 p2 p3 hl hhd
            refine ⟨u, hex a w _ _ _ hv (run_loadAt_scalar hi ha h1), fun r' => .c (h2.aliasT _), fun r2 hq => ?_⟩
            rcases C.alias_roots _ _ r2 hq with e | e
            · rw [e]; exact hex'
            · simp [C.roots] at e
      refine hg2 _ ?_
      cases r <;> rfl
    all_goals exact h.elim
end
end Vx

namespace Vx
open Go Classical
set_option linter.unusedSimpArgs false
set_option linter.unusedVariables false

/-! ## A place's content -/
structure PlaceAt (σ : Sg) (r : Root) (c : Nat) (t : T) : Prop where
  ex : σ.ex r
  slot : ∀ n, (r = .slot n ∨ r = .new n) → r = σ.rt n ∧ (σ.slot n).cellAt c = some (.t t)
  obj : ∀ k, r = .obj k → σ.inr k c = true ∧ σ.cell k c = .t t
  nret : r ≠ .ret
structure PlaceC (σ : Sg) (r : Root) (c : Nat) (x : C) : Prop where
  ex : σ.ex r
  slot : ∀ n, (r = .slot n ∨ r = .new n) → r = σ.rt n ∧ (σ.slot n).cellAt c = some x
  obj : ∀ k, r = .obj k → σ.inr k c = true ∧ σ.cell k c = x
  nret : r ≠ .ret
theorem PlaceAt.c {σ : Sg} {r : Root} {c : Nat} {t : T} (h : PlaceAt σ r c t) : PlaceC σ r c (.t t) := ⟨h.ex, h.slot, h.obj, h.nret⟩
structure PlaceIs (σ : Sg) (r : Root) (c : Nat) (t : T) : Prop extends PlaceAt σ r c t where
  dirty : σ.dirty r c = false
theorem place_is {σ : Sg} {r : Root} {c : Nat} {f : T → Rd Eff} (h : ((place r c f).run σ).ok) : ∃ t, (place r c f).run σ = (f t).run σ ∧ PlaceIs σ r c t := by
  obtain ⟨t, e, h1, h2, h3, h4, h5⟩ := place_ok h
  exact ⟨t, e, ⟨h2, h3, h4, h5⟩, h1⟩
theorem deref_is {σ : Sg} {a : CA} {f : T → T → Rd Eff} (h : ((deref a f).run σ).ok) : ∃ t x, (deref a f).run σ = (f t x).run σ ∧ t.at a.path = some x ∧ PlaceIs σ a.root a.c t := by
  obtain ⟨t, x, e, h0, h1, h2, h3, h4, h5⟩ := deref_ok h
  exact ⟨t, x, e, h0, ⟨h2, h3, h4, h5⟩, h1⟩
theorem PlaceIs.rep {E : Env} {σ : Sg} {tmps : Array Value} {w : World} {g : Gh} {r : Root} {c : Nat} {t : T} (h : PlaceIs σ r c t) (hc : Core E σ tmps w g) : ∃ v, Rep w g ⟨r, c, []⟩ t v :=
  hc.place h.slot h.obj h.nret
theorem CA.eta (a : CA) : (⟨a.root, a.c, []⟩ : CA).go a.path = a := by cases a; simp [CA.go]
theorem CA.go_mk (r : Root) (c : Nat) (p : List Hop) : (⟨r, c, []⟩ : CA).go p = ⟨r, c, p⟩ := by simp [CA.go]

theorem rt_inj {n m : Nat} {a b : Bool} (h : Vx.rt n a = Vx.rt m b) : n = m := by
  unfold Vx.rt at h
  split at h <;> split at h <;> cases h <;> rfl
theorem Sg.rt_inj {σ τ : Sg} {n m : Nat} (h : σ.rt n = τ.rt m) : n = m := Vx.rt_inj h
theorem Sg.rt_slot (σ : Sg) (n : Nat) : σ.rt n = .slot n ∨ σ.rt n = .new n := by
  unfold Sg.rt Vx.rt
  split <;> simp
theorem Sg.rt_ne_obj (σ : Sg) (n k : Nat) : σ.rt n ≠ .obj k := by
  rcases σ.rt_slot n with h | h <;> rw [h] <;> intro e <;> cases e

/-! ## Writing into a slot's value -/
theorem SVRep.setAt {w w' : World} {g g' : Gh} {d d' : Dirt} {S : Root → Prop} {r : Root} {sv : SV} {v : Value} {c : Nat} {x y : C} (h : SVRep w g d r 0 sv v) (hf : sv.flat = true) (hx : sv.cellAt c = some x)
    (k : Keeps w w' g g' d d' S) (hS : ∀ r ∈ sv.roots, S r) (hs : ∀ c', c' ≠ c → Still w w' g g' r c') (hy : ∀ u, CRep w g d ⟨r, c, []⟩ x u → CRep w' g' d' ⟨r, c, []⟩ y u) : SVRep w' g' d' r 0 (sv.setAt c y) v := by
  cases h with
  | c h =>
    simp only [SV.cellAt] at hx
    split at hx
    · rename_i e
      subst e
      cases hx
      exact .c (hy _ h)
    · cases hx
  | agg vs h =>
    rename_i row
    have hlt := lt_of_getElem? (show row[c]? = some x from hx)
    have := SVRep.agg (w := w') (g := g') (d := d') (r := r) (n := 0) (row := row.set c y) vs (fun j z hj => by
      rw [Nat.zero_add]
      by_cases e : c = j
      · subst e
        rw [List.getElem?_set_self hlt] at hj
        cases hj
        have h1 := h c _ hx
        rw [Nat.zero_add] at h1
        exact hy _ h1
      · rw [List.getElem?_set_ne e] at hj
        have h1 := h j _ hj
        rw [Nat.zero_add] at h1
        exact h1.still k (fun r hr => hS r (by simp only [SV.roots]; exact C.mem_rootsL.2 ⟨z, List.mem_of_getElem? hj, hr⟩)) (hs j fun q => e q.symm))
    rw [List.length_set] at this
    exact this
  | tup vs h =>
    rename_i l
    have hroot : ∀ {j : Nat} {z : SV}, l[j]? = some z → ∀ r ∈ z.roots, S r := fun hj r hr => hS r (by simp only [SV.roots]; exact SV.mem_rootsL.2 ⟨_, List.mem_of_getElem? hj, hr⟩)
    have hflat : ∀ {j : Nat} {z : SV}, l[j]? = some z → (∀ l', z ≠ .tup l') ∧ ∀ row, z = .agg row → row.length ≤ 64 := by
      intro j z hj
      simp only [SV.flat, List.all_eq_true] at hf
      have := hf z (List.mem_of_getElem? hj)
      cases z with
      | tup l' => simp at this
      | agg row => exact ⟨(by intro l' e; cases e), fun r e => by cases e; simpa using this⟩
      | c x => exact ⟨(by intro l' e; cases e), fun r e => by cases e⟩
    have hother : ∀ {j : Nat} {z : SV}, l[j]? = some z → c / 64 - 1 ≠ j → 64 ≤ c → SVRep w g d r (0 + 64 * (j + 1)) z (vs j) → SVRep w' g' d' r (0 + 64 * (j + 1)) z (vs j) := by
      intro j z hj e hc h1
      obtain ⟨f1, f2⟩ := hflat hj
      revert h1
      generalize vs j = u
      intro h1
      cases h1 with
      | c h1 => exact .c (h1.still k (hroot hj) (hs _ (by simp only; omega)))
      | agg us h1 =>
        have f3 := f2 _ rfl
        refine .agg us fun i z2 hi => (h1 i z2 hi).still k (fun r hr => hroot hj r (by simp only [SV.roots]; exact C.mem_rootsL.2 ⟨z2, List.mem_of_getElem? hi, hr⟩)) (hs _ ?_)
        have := lt_of_getElem? hi
        simp only
        omega
      | tup us h1 => exact absurd rfl (f1 _)
    simp only [SV.cellAt] at hx
    split at hx
    · rename_i y0 hy0
      split at hx
      · rename_i e
        cases hx
        obtain ⟨e1, e2⟩ := e
        have hlt := lt_of_getElem? hy0
        have hset : (SV.tup l).setAt c y = .tup (l.set (c / 64 - 1) (.c y)) := by simp only [SV.setAt, hy0]
        rw [hset]
        have := SVRep.tup (w := w') (g := g') (d := d') (r := r) (n := 0) (l := l.set (c / 64 - 1) (.c y)) vs (fun j z hj => by
          by_cases e : c / 64 - 1 = j
          · subst e
            rw [List.getElem?_set_self hlt] at hj
            cases hj
            have h1 := h _ _ hy0
            cases h1 with
            | c h1 =>
              refine .c ?_
              rw [show 0 + 64 * (c / 64 - 1 + 1) = c by omega] at h1 ⊢
              exact hy _ h1
          · rw [List.getElem?_set_ne e] at hj
            exact hother hj e e2 (h j _ hj))
        rw [List.length_set] at this
        exact this
      · cases hx
    · rename_i row hy0
      split at hx
      · rename_i e
        have hlt := lt_of_getElem? hy0
        have hlr := lt_of_getElem? hx
        have hset : (SV.tup l).setAt c y = .tup (l.set (c / 64 - 1) (.agg (row.set (c % 64) y))) := by simp only [SV.setAt, hy0]
        rw [hset]
        have := SVRep.tup (w := w') (g := g') (d := d') (r := r) (n := 0) (l := l.set (c / 64 - 1) (.agg (row.set (c % 64) y))) vs (fun j z hj => by
          by_cases e' : c / 64 - 1 = j
          · subst e'
            rw [List.getElem?_set_self hlt] at hj
            cases hj
            have h1 := h _ _ hy0
            revert h1
            generalize vs (c / 64 - 1) = u
            intro h1
            cases h1 with
            | agg us h1 =>
              have := SVRep.agg (w := w') (g := g') (d := d') (r := r) (n := 0 + 64 * (c / 64 - 1 + 1)) (row := row.set (c % 64) y) us (fun i z2 hi => by
                have e3 : 0 + 64 * (c / 64 - 1 + 1) + c % 64 = c := by omega
                by_cases e2 : c % 64 = i
                · subst e2
                  rw [List.getElem?_set_self hlr] at hi
                  cases hi
                  have h2 := h1 _ _ hx
                  rw [e3] at h2 ⊢
                  exact hy _ h2
                · rw [List.getElem?_set_ne e2] at hi
                  exact (h1 i z2 hi).still k (fun r hr => hroot hy0 r (by simp only [SV.roots]; exact C.mem_rootsL.2 ⟨z2, List.mem_of_getElem? hi, hr⟩)) (hs _ (by simp only; omega)))
              rw [List.length_set] at this
              exact this
          · rw [List.getElem?_set_ne e'] at hj
            exact hother hj e' e (h j _ hj))
        rw [List.length_set] at this
        exact this
      · cases hx
    · cases hx

theorem rootsL_set {row : List C} {j : Nat} {y : C} : ∀ r ∈ C.rootsL (row.set j y), r ∈ C.rootsL row ∨ r ∈ y.roots := by
  intro r h
  obtain ⟨z, h1, h2⟩ := C.mem_rootsL.1 h
  rcases List.mem_or_eq_of_mem_set h1 with e | e
  · exact .inl (C.mem_rootsL.2 ⟨z, e, h2⟩)
  · subst e; exact .inr h2
theorem SV.setAt_roots (sv : SV) (c : Nat) (y : C) : ∀ r ∈ (sv.setAt c y).roots, r ∈ sv.roots ∨ r ∈ y.roots := by
  intro r h
  cases sv with
  | c x => exact .inr h
  | agg row => exact rootsL_set r h
  | tup l =>
    simp only [SV.setAt] at h
    split at h
    · rename_i x hx
      obtain ⟨z, h1, h2⟩ := SV.mem_rootsL.1 h
      rcases List.mem_or_eq_of_mem_set h1 with e | e
      · exact .inl (SV.mem_rootsL.2 ⟨z, e, h2⟩)
      · subst e; exact .inr h2
    · rename_i row hrow
      obtain ⟨z, h1, h2⟩ := SV.mem_rootsL.1 h
      rcases List.mem_or_eq_of_mem_set h1 with e | e
      · exact .inl (SV.mem_rootsL.2 ⟨z, e, h2⟩)
      · subst e
        rcases rootsL_set r h2 with e | e
        · exact .inl (SV.mem_rootsL.2 ⟨_, List.mem_of_getElem? hrow, e⟩)
        · exact .inr e
    · exact .inl h
theorem SV.setAt_flat (sv : SV) (c : Nat) (y : C) (h : sv.flat = true) : (sv.setAt c y).flat = true := by
  cases sv with
  | c x => rfl
  | agg row => rfl
  | tup l =>
    simp only [SV.flat, List.all_eq_true] at h
    simp only [SV.setAt]
    split
    · simp only [SV.flat, List.all_eq_true]
      intro z hz
      rcases List.mem_or_eq_of_mem_set hz with e | e
      · exact h z e
      · subst e; rfl
    · rename_i row hrow
      simp only [SV.flat, List.all_eq_true]
      intro z hz
      rcases List.mem_or_eq_of_mem_set hz with e | e
      · exact h z e
      · subst e
        have := h _ (List.mem_of_getElem? hrow)
        simpa using this
    · simp only [SV.flat, List.all_eq_true]; exact h

/-! ## One content moves -/
theorem Sg.setP_isnew (σ : Sg) (r : Root) (c : Nat) (x : C) : (σ.setP r c x).isnew = σ.isnew := by cases r <;> rfl
theorem Sg.setP_kind (σ : Sg) (r : Root) (c : Nat) (x : C) : (σ.setP r c x).kind = σ.kind := by cases r <;> rfl
theorem Sg.setP_mp (σ : Sg) (r : Root) (c : Nat) (x : C) : (σ.setP r c x).mp = σ.mp := by cases r <;> rfl
theorem Sg.setP_dirty (σ : Sg) (r : Root) (c : Nat) (x : C) : (σ.setP r c x).dirty = σ.dirty := by cases r <;> rfl
theorem Sg.setP_ex (σ : Sg) (r : Root) (c : Nat) (x : C) : (σ.setP r c x).ex = σ.ex := by
  funext q
  cases q <;> simp [Sg.ex, Sg.setP_isnew, Sg.setP_kind, Sg.setP_mp]
theorem Sg.setP_rt (σ : Sg) (r : Root) (c : Nat) (x : C) (n : Nat) : (σ.setP r c x).rt n = σ.rt n := by simp [Sg.rt, Sg.setP_isnew]
theorem Sg.setP_inr (σ : Sg) (r : Root) (c : Nat) (x : C) (k j : Nat) : (σ.setP r c x).inr k j = σ.inr k j := by simp [Sg.inr, Sg.setP_kind]

/-- A place gets other content, in a world that is otherwise the same. -/
theorem Core.setC {E : Env} {σ : Sg} {tmps : Array Value} {w w' : World} {g g' : Gh} (hc : Core E σ tmps w g) {r : Root} {c : Nat} {x y : C} (hp : PlaceC σ r c x)
    (hk : Keeps w w' g g' σ.dirty σ.dirty σ.ex) (hyr : ∀ q ∈ y.roots, σ.ex q) (hs : ∀ r' c', σ.ex r' → ¬ (r' = r ∧ c' = c) → Still w w' g g' r' c')
    (hb : ∀ b k, b < w.heap.size → g.ow b = .box k → g'.ow b = .box k ∧ w'.heap[b]? = w.heap[b]?)
    (hg : ∀ b, b < E.ng → g'.ow b = g.ow b ∧ w'.heap[b]? = w.heap[b]?) (hsz : w.heap.size ≤ w'.heap.size)
    (hyC : ∀ u, CRep w g σ.dirty ⟨r, c, []⟩ x u → CRep w' g' σ.dirty ⟨r, c, []⟩ y u) : Core E (σ.setP r c y) tmps w' g' := by
  have hbo : ∀ k, (∃ j, g.ow (g.bl k).1 = .box j) → (∃ o, w.heap[(g.bl k).1]? = some o) → w'.heap[(g.bl k).1]? = w.heap[(g.bl k).1]? := by
    rintro k ⟨j, hj⟩ ⟨o, ho⟩
    exact (hb _ j (lt_of_heap ho) hj).2
  refine Core.step hc (by rw [Sg.setP_dirty]; exact hk) (fun n => ?_) (fun k kd h => ?_) (fun k j => ?_) (fun k es h => ?_) (fun q h => by rw [Sg.setP_ex]; exact h) hg hsz
  · by_cases e : r = .slot n ∨ r = .new n
    · obtain ⟨e1, e2⟩ := hp.slot n e
      have e3 : (σ.setP r c y).slot n = (σ.slot n).setAt c y := by
        rcases e with e | e <;> subst e <;> simp [Sg.setP]
      refine .inr ⟨?_, by rw [e3]; exact SV.setAt_flat _ _ _ (hc.flat n), fun q hq => ?_⟩
      · rw [e3, Sg.setP_rt, Sg.setP_dirty, ← e1]
        have := hc.slots n
        rw [← e1] at this
        exact this.setAt (hc.flat n) e2 hk (hc.liveS n) (fun c' hc' => hs r c' hp.ex (fun q => hc' q.2)) hyC
      · rw [e3] at hq
        rw [Sg.setP_ex]
        rcases SV.setAt_roots _ _ _ q hq with h | h
        · exact hc.liveS n q h
        · exact hyr q h
    · refine .inl ⟨?_, by rw [Sg.setP_isnew], rfl, fun c' => hs _ c' (σ.rt_ex n) fun q => e ?_⟩
      · cases r with
        | slot m => have : n ≠ m := fun q => e (.inl (by rw [q])); simp [Sg.setP, this]
        | new m => have : n ≠ m := fun q => e (.inr (by rw [q])); simp [Sg.setP, this]
        | _ => rfl
      · rw [← q.1]
        exact σ.rt_slot n
  · rw [Sg.setP_kind] at h
    have base := hc.objs k kd h
    have hexk : σ.ex (.obj k) := .inr (.inl (by rw [h]; simp))
    have hbl := hk.bl k hexk
    by_cases e : r = .obj k
    · subst e
      obtain ⟨e1, e2⟩ := hp.obj k rfl
      refine .inr ?_
      unfold Sg.inr at e1
      rw [h] at e1
      have ecell : ∀ j, (σ.setP (.obj k) c y).cell k j = if j = c then y else σ.cell k j := by
        intro j
        by_cases hj : j = c
        · subst hj; simp [Sg.setP, Sg.inr, h, e1]
        · simp [Sg.setP, hj]
      cases kd with
      | box m =>
        obtain ⟨cs, el, b1, b2, b3, b4, b5⟩ := base
        obtain ⟨f1, f2⟩ := hb _ k (lt_of_heap b1) b2
        refine ⟨cs, el, by rw [hbl, f2]; exact b1, by rw [hbl]; exact f1, by rw [hbl]; exact b3, by rw [hbl]; exact b4, fun j hj => ?_⟩
        obtain ⟨u, g1, g2⟩ := b5 j hj
        refine ⟨u, by rw [hbl]; exact g1, ?_⟩
        rw [ecell, Sg.setP_dirty]
        by_cases hjc : j = c
        · subst hjc
          rw [if_pos rfl]
          rw [e2] at g2
          exact hyC u g2
        · rw [if_neg hjc]
          exact g2.still hk (hc.liveC k j) (hs _ _ hexk fun q => hjc q.2)
      | virt =>
        obtain ⟨u, g2⟩ := base
        simp only [inrK, beq_iff_eq] at e1
        subst e1
        refine ⟨u, ?_⟩
        rw [ecell, if_pos rfl, Sg.setP_dirty]
        rw [e2] at g2
        exact hyC u g2
    · refine .inl ⟨h, fun j => ⟨?_, hs _ _ hexk fun q => e q.1.symm⟩, fun hj => ?_⟩
      · cases r with
        | obj k' => have : k ≠ k' := fun q => e (by rw [q]); simp [Sg.setP, this]
        | _ => rfl
      · exact hb _ k hj
  · by_cases e : r = .obj k
    · subst e
      by_cases hi : σ.inr k c = true
      · by_cases hj : j = c
        · subst hj
          right
          intro q hq
          rw [Sg.setP_ex]
          simp [Sg.setP, hi] at hq
          exact hyr q hq
        · left; simp [Sg.setP, hj]
      · left; simp [Sg.setP, hi]
    · left
      cases r with
      | obj k' => have : k ≠ k' := fun q => e (by rw [q]); simp [Sg.setP, this]
      | _ => rfl
  · rw [Sg.setP_mp] at h
    exact .inl ⟨h, fun hj => hb _ k hj⟩

/-- A place gets other data, in a world that is otherwise the same. -/
theorem Core.setPlace {E : Env} {σ : Sg} {tmps : Array Value} {w w' : World} {g g' : Gh} (hc : Core E σ tmps w g) {r : Root} {c : Nat} {t y : T} (hp : PlaceAt σ r c t)
    (hk : Keeps w w' g g' σ.dirty σ.dirty σ.ex) (hs : ∀ r' c', σ.ex r' → ¬ (r' = r ∧ c' = c) → Still w w' g g' r' c')
    (hb : ∀ b k, b < w.heap.size → g.ow b = .box k → g'.ow b = .box k ∧ w'.heap[b]? = w.heap[b]?)
    (hg : ∀ b, b < E.ng → g'.ow b = g.ow b ∧ w'.heap[b]? = w.heap[b]?) (hsz : w.heap.size ≤ w'.heap.size)
    (hy : ∀ u, Rep w g ⟨r, c, []⟩ t u → Rep w' g' ⟨r, c, []⟩ y u) : Core E (σ.upd (.set r c y)) tmps w' g' :=
  hc.setC hp.c hk (by simp [C.roots]) hs hb hg hsz fun u h => by cases h with | t h => exact .t (hy u h)

theorem Core.take1 {E : Env} {σ : Sg} {tmps : Array Value} {w : World} {g : Gh} (hc : Core E σ tmps w g) {r : Root} {c : Nat} {t x : T} (hp : PlaceIs σ r c t) {p : List Hop} (hx : t.at p = some x) (q : CA) (hq : ¬ σ.ex q.root) :
    Core E (σ.upd (.set r c (t.put p .top))) tmps w (g.reg ⟨r, c, p⟩ q) ∧ ∃ v, Rep w g ⟨r, c, p⟩ x v ∧ Rep w (g.reg ⟨r, c, p⟩ q) q x v := by
  have hne : ∀ r', σ.ex r' → r' ≠ q.root := fun r' h e => hq (e ▸ h)
  have hkeep : Keeps w w g (g.reg ⟨r, c, p⟩ q) σ.dirty σ.dirty σ.ex := ⟨Nat.le_refl _, fun b _ h => ⟨Gh.reg_fz _ _ _ h, rfl⟩,
    fun r' c' h1 h2 => ⟨h2, fun s => Gh.reg_hd _ _ _ fun e => hne _ h1 e.1⟩, fun _ _ => rfl⟩
  refine ⟨hc.setPlace hp.toPlaceAt hkeep (fun r' c' h1 h2 => ?_) (fun b k _ h => ⟨Gh.reg_box _ _ _ h, rfl⟩) (fun b hb => ⟨?_, rfl⟩) (Nat.le_refl _) (fun u hu => ?_), ?_⟩
  · exact Gh.reg_still w g _ _ (fun e => h2 ⟨e.1, e.2⟩) (fun e => hne _ h1 e.1)
  · rw [(hc.glob b hb).1, Gh.reg_other _ _ _ (hc.glob b hb).1]
  · refine Rep.put hu p hx ⟨Nat.le_refl _, fun b _ h => ⟨Gh.reg_fz _ _ _ h, rfl⟩, fun b a' _ ha hn ho => ⟨?_, rfl⟩, fun a' ha _ => Gh.reg_hd _ _ _ fun e => hne _ hp.ex (ha.1.symm.trans e.1)⟩ (fun _ _ => .fro .top)
    rw [CA.go_mk] at hn
    simp only [Gh.reg, ho]
    rw [if_neg hn, if_neg (not_under_of_ne fun e => hne _ hp.ex (ha.1.symm.trans e.1))]
  · obtain ⟨u, hu⟩ := hp.rep hc
    obtain ⟨v, hv, _⟩ := hu.at hx
    rw [CA.go_mk] at hv
    exact ⟨v, hv, hv.reg⟩
end Vx

namespace Vx
open Go Classical
set_option linter.unusedSimpArgs false
set_option linter.unusedVariables false

def CA.apart (a b : CA) : Prop := ¬ a.under b ∧ ¬ b.under a
theorem CA.apart_no {a b x : CA} (h : a.apart b) (h1 : x.under a) (h2 : x.under b) : False := by
  obtain ⟨e1, e2, s, e3⟩ := h1
  obtain ⟨f1, f2, u, f3⟩ := h2
  rw [e3] at f3
  rcases List.append_eq_append_iff.1 f3 with ⟨z, h1, h2⟩ | ⟨z, h1, h2⟩
  · exact h.1 ⟨e1.symm.trans f1, e2.symm.trans f2, z, h2⟩
  · exact h.2 ⟨f1.symm.trans e1, f2.symm.trans e2, z, h2⟩

theorem Rep.reg_other {w : World} {g : Gh} {p q a : CA} {t : T} {v : Value} (h : Rep w g a t v) (hp : a.apart p) (hq : a.apart q) : Rep w (g.reg p q) a t v := by
  refine h.frame (Nat.le_refl _) (fun b _ h => ⟨Gh.reg_fz _ _ _ h, rfl⟩) (fun b a' _ ha ho => ⟨?_, rfl⟩) (fun a' ha => ?_)
  · simp only [Gh.reg, ho]
    rw [if_neg fun e => CA.apart_no hp ha e, if_neg fun e => CA.apart_no hq ha e]
  · show (if _ then _ else _) = _
    rw [if_neg fun e => CA.apart_no hq ha e]
theorem CA.apart_root {a b : CA} (h : a.root ≠ b.root) : a.apart b := ⟨fun e => h e.1, fun e => h e.1.symm⟩

/-- The cells `l'` are those of `l`, with what owned places moved along. -/
inductive TkL (σ : Sg) : List C → List C → List Upd → Prop where
  | nil : TkL σ [] [] []
  | keep {x l l' us} (h : TkL σ l l' us) : TkL σ (x :: l) (x :: l') us
  | take {r c t l l' us} (hp : PlaceIs σ r c t) (ht : t.isOwn = true) (h : TkL σ l l' us) : TkL σ (.ref ⟨r, c, []⟩ :: l) (.t t :: l') (.hole r c :: us)
theorem TkL.length {σ : Sg} {l l' : List C} {us : List Upd} (h : TkL σ l l' us) : l'.length = l.length := by
  induction h <;> simp_all

theorem TkL.append {σ : Sg} {l1 l1' l2 l2' : List C} {us1 us2 : List Upd} (h1 : TkL σ l1 l1' us1) (h2 : TkL σ l2 l2' us2) : TkL σ (l1 ++ l2) (l1' ++ l2') (us1 ++ us2) := by
  induction h1 with
  | nil => exact h2
  | keep h ih => exact .keep ih
  | take hp ht h ih => exact .take hp ht ih

theorem moveL_ok {σ : Sg} : ∀ {l : List C} {f : List C → List Upd → Rd Eff}, ((moveL l f).run σ).ok → ∃ l' us, TkL σ l l' us ∧ (moveL l f).run σ = (f l' us).run σ
  | [], f, h => ⟨[], [], .nil, rfl⟩
  | x :: l, f, h => by
    simp only [moveL] at h ⊢
    have keep : ∀ {x}, ((moveL l fun ys vs => f (x :: ys) ([] ++ vs)).run σ).ok → ∃ l' us, TkL σ (x :: l) l' us ∧ (moveL l fun ys vs => f (x :: ys) ([] ++ vs)).run σ = (f l' us).run σ := by
      intro x h
      obtain ⟨l', us, h1, h2⟩ := moveL_ok h
      exact ⟨_, _, .keep h1, h2⟩
    unfold moveC at h ⊢
    split at h
    · rename_i m c
      obtain ⟨t, e, hp⟩ := place_is h
      rw [e] at h ⊢
      by_cases ht : t.isOwn = true
      · rw [if_pos ht] at h ⊢
        obtain ⟨l', us, h1, h2⟩ := moveL_ok h
        exact ⟨_, _, .take hp ht h1, h2⟩
      · rw [if_neg ht] at h; exact h.elim
    · exact keep h
theorem takeL_ok {σ : Sg} : ∀ {l : List C} {f : List T → List Upd → Rd Eff}, ((takeL l f).run σ).ok → ∃ l' us, TkL σ l (l'.map C.t) us ∧ (takeL l f).run σ = (f l' us).run σ
  | [], f, h => ⟨[], [], .nil, rfl⟩
  | x :: l, f, h => by
    simp only [takeL] at h ⊢
    unfold takeC at h ⊢
    split at h
    · obtain ⟨l', us, h1, h2⟩ := takeL_ok h
      exact ⟨_ :: l', us, .keep h1, h2⟩
    · rename_i r c
      obtain ⟨t, e, hp⟩ := place_is h
      rw [e] at h ⊢
      by_cases ht : t.isOwn = true
      · rw [if_pos ht] at h ⊢
        obtain ⟨l', us, h1, h2⟩ := takeL_ok h
        exact ⟨_ :: l', _, .take hp ht h1, h2⟩
      · rw [if_neg ht] at h; exact h.elim
    · exact h.elim

theorem keysOf_append : ∀ (a b : List Upd), keysOf (a ++ b) = keysOf a ++ keysOf b
  | [], b => rfl
  | u :: a, b => by simp [keysOf, keysOf_append a b]
theorem keysOf_mem {u : Upd} {k : Key} : ∀ {us : List Upd}, u ∈ us → k ∈ u.key → k ∈ keysOf us
  | [], h, _ => by cases h
  | v :: us, h, hk => by
    simp only [keysOf, List.mem_append]
    rcases List.mem_cons.1 h with e | e
    · subst e; exact .inl hk
    · exact .inr (keysOf_mem e hk)
theorem distinct_iff : ∀ (l : List Key), distinct l = true ↔ l.Nodup
  | [] => by simp [distinct]
  | x :: l => by simp [distinct, distinct_iff l, List.nodup_cons]
theorem distinct_left {a b : List Upd} (h : distinct (keysOf (a ++ b)) = true) : distinct (keysOf a) = true := by
  rw [distinct_iff] at *
  rw [keysOf_append] at h
  exact (List.nodup_append.1 h).1

theorem SV.cellAt_setAt_ne {sv : SV} {c c' : Nat} {x y : C} (h : sv.cellAt c' = some x) (hn : c' ≠ c) (hc : ∃ z, sv.cellAt c = some z) : (sv.setAt c y).cellAt c' = some x := by
  obtain ⟨z, hc⟩ := hc
  cases sv with
  | c u =>
    simp only [SV.cellAt] at h hc
    split at h
    · split at hc
      · omega
      · cases hc
    · cases h
  | agg row =>
    simp only [SV.setAt, SV.cellAt] at *
    rw [List.getElem?_set_ne (fun e => hn e.symm)]
    exact h
  | tup l =>
    rw [SV.cellAt] at h hc
    cases hl : l[c / 64 - 1]? with
    | none => rw [hl] at hc; cases hc
    | some z0 =>
      have hlt := lt_of_getElem? hl
      rw [hl] at hc
      by_cases e : c / 64 - 1 = c' / 64 - 1
      · rw [← e, hl] at h
        cases z0 with
        | c u =>
          simp only at h hc
          split at h
          · split at hc
            · omega
            · cases hc
          · cases h
        | agg row =>
          simp only at h hc
          split at h
          · split at hc
            · rename_i h1 h2
              simp only [SV.setAt, hl]
              rw [SV.cellAt, ← e, List.getElem?_set_self hlt]
              simp only
              rw [if_pos h1, List.getElem?_set_ne (by omega)]
              exact h
            · cases hc
          · cases h
        | tup l' => cases h
      · have : ∀ z, ((l.set (c / 64 - 1) z)[c' / 64 - 1]?) = l[c' / 64 - 1]? := fun z => List.getElem?_set_ne e
        cases z0 with
        | c u => simp only [SV.setAt, hl]; rw [SV.cellAt, this]; exact h
        | agg row => simp only [SV.setAt, hl]; rw [SV.cellAt, this]; exact h
        | tup l' => simp only [SV.setAt, hl]; rw [SV.cellAt]; exact h

theorem PlaceIs.hole {σ : Sg} {r r' : Root} {c c' : Nat} {t t' : T} {y : T} (h : PlaceIs σ r c t) (h' : PlaceIs σ r' c' t') (hn : ¬ (r' = r ∧ c' = c)) : PlaceIs (σ.upd (.set r c y)) r' c' t' := by
  show PlaceIs (σ.setP r c (.t y)) r' c' t'
  refine ⟨⟨by rw [Sg.setP_ex]; exact h'.ex, fun n e => ?_, fun k e => ?_, h'.nret⟩, by rw [Sg.setP_dirty]; exact h'.dirty⟩
  · obtain ⟨e1, e2⟩ := h'.slot n e
    refine ⟨by rw [Sg.setP_rt]; exact e1, ?_⟩
    by_cases hr : r = .slot n ∨ r = .new n
    · obtain ⟨f1, f2⟩ := h.slot n hr
      have : (σ.setP r c (.t y)).slot n = (σ.slot n).setAt c (.t y) := by rcases hr with e | e <;> subst e <;> simp [Sg.setP]
      rw [this]
      exact SV.cellAt_setAt_ne e2 (fun q => hn ⟨e1.trans f1.symm, q⟩) ⟨_, f2⟩
    · have : (σ.setP r c (.t y)).slot n = σ.slot n := by
        cases r with
        | slot m => have : n ≠ m := fun q => hr (.inl (by rw [q])); simp [Sg.setP, this]
        | new m => have : n ≠ m := fun q => hr (.inr (by rw [q])); simp [Sg.setP, this]
        | _ => rfl
      rw [this]; exact e2
  · obtain ⟨e1, e2⟩ := h'.obj k e
    refine ⟨by rw [Sg.setP_inr]; exact e1, ?_⟩
    cases r with
    | obj k' =>
      have : ¬ (k = k' ∧ c' = c) := fun q => hn ⟨by rw [e, q.1], q.2⟩
      have : ¬ (k = k' ∧ c' = c ∧ σ.inr k' c = true) := fun q => this ⟨q.1, q.2.1⟩
      simp only [Sg.setP]
      rw [if_neg this]; exact e2
    | _ => exact e2

theorem CRep.keeps {w w' : World} {g g' : Gh} {d d' : Dirt} {S : Root → Prop} {a a' : CA} {x : C} {v : Value} (h : CRep w g d a x v) (hn : x.isOwn = false) (k : Keeps w w' g g' d d' S) (hS : ∀ r ∈ x.roots, S r) : CRep w' g' d' a' x v := by
  have h1 := h.repos (a' := a') hn
  clear h
  induction h1 with
  | t h => exact .t (.fro ((h.isFro fun sz xs e => by subst e; simp [C.isOwn] at hn).frame k.lim k.fz))
  | ref h h1 => exact .ref (fun e => by obtain ⟨k1, k2⟩ := k.ref _ _ (hS _ (by simp [C.roots])) e; rw [h k1]; exact (k2 _).symm) h1
  | @ptr p v h h0 h1 =>
    have hs : S p.root := hS _ (by simp [C.roots])
    exact .ptr (fun e e2 => (h e (k.ref _ _ hs e2).1).still k hs (fun _ => e2)) (fun e => (h0 e).still k hs (fun n => absurd e n)) h1
  | fp vs hh ho hcell hrec =>
    obtain ⟨e1, e2⟩ := k.fz _ (lt_of_heap hh) ho
    exact .fp vs (e2.trans hh) e1 hcell fun j x hj => (hrec j x hj).frame k.lim k.fz
  | clo vs hn' h ih => exact .clo vs hn' fun j x hj => ih j x hj (hn' x (List.mem_of_getElem? hj)) fun r hr => hS r (by simp only [C.roots]; exact C.mem_rootsL.2 ⟨x, List.mem_of_getElem? hj, hr⟩)
  | mp h => exact .mp (by rw [k.bl _ (hS _ (by simp [C.roots]))]; exact h)

theorem Keeps.trans {w w1 w2 : World} {g g1 g2 : Gh} {d d1 d2 : Dirt} {S : Root → Prop} (hs : w.heap.size ≤ w1.heap.size) (h : Keeps w w1 g g1 d d1 S) (k : Keeps w1 w2 g1 g2 d1 d2 S) : Keeps w w2 g g2 d d2 S := by
  refine ⟨Nat.le_trans h.lim k.lim, fun b hb ho => ?_, fun r c hr hd => ?_, fun j hj => (k.bl j hj).trans (h.bl j hj)⟩
  · obtain ⟨e1, e2⟩ := h.fz b hb ho
    obtain ⟨f1, f2⟩ := k.fz b (Nat.lt_of_lt_of_le hb hs) e1
    exact ⟨f1, f2.trans e2⟩
  · obtain ⟨e1, e2⟩ := k.ref r c hr hd
    obtain ⟨f1, f2⟩ := h.ref r c hr e1
    exact ⟨f1, fun p => (e2 p).trans (f2 p)⟩

/-- What moves into unexposed places. -/
structure Took (E : Env) (tmps : Array Value) (w : World) (σ σ' : Sg) (g g' : Gh) (q : Nat → CA) (n : Nat) : Prop where
  core : Core E σ' tmps w g'
  move : Move w g w g'
  keeps : Keeps w w g g' σ.dirty σ.dirty σ.ex
  other : ∀ a t v, Rep w g a t v → ¬ σ.ex a.root → (∀ j, j < n → a.apart (q j)) → Rep w g' a t v
  isnew : σ'.isnew = σ.isnew
  ex : σ'.ex = σ.ex
  dirty : σ'.dirty = σ.dirty
  kind : σ'.kind = σ.kind
  mp : σ'.mp = σ.mp

theorem TkL.core {E : Env} {tmps : Array Value} {w : World} {σ : Sg} {l l' : List C} {us : List Upd} (h : TkL σ l l' us) : ∀ (τ : Sg) (g : Gh), Core E τ tmps w g → τ.dirty = σ.dirty → τ.ex = σ.ex →
    (∀ r c t, Upd.hole r c ∈ us → PlaceIs σ r c t → PlaceIs τ r c t) → distinct (keysOf us) = true →
    ∀ (q : Nat → CA) (vs : Nat → Value), (∀ j, ¬ σ.ex (q j).root) → (∀ i j, i < j → j < l.length → (q i).apart (q j)) →
    (∀ j x, l[j]? = some x → (∃ a, CRep w g σ.dirty a x (vs j)) ∧ x.isOwn = false ∧ ∀ r ∈ x.roots, σ.ex r) →
    ∃ g', Took E tmps w τ (τ.upds us) g g' q l.length ∧ ∀ j x, l'[j]? = some x → CRep w g' σ.dirty (q j) x (vs j) := by
  induction h with
  | nil =>
    intro τ g hc hd hx _ _ q vs _ _ _
    exact ⟨g, ⟨hc, Move.refl _ _, Keeps.refl _ _ _ _, fun a t v h _ _ => h, rfl, rfl, rfl, rfl, rfl⟩, fun j x hj => by simp at hj⟩
  | @keep x l l' us h ih =>
    intro τ g hc hd hx hp hdi q vs hq hap hl
    obtain ⟨g', ht, hr⟩ := ih τ g hc hd hx hp hdi (fun j => q (j + 1)) (fun j => vs (j + 1)) (fun j => hq _) (fun i j h1 h2 => hap _ _ (by omega) (by simpa using h2)) (fun j x hj => hl (j + 1) x (by simpa using hj))
    refine ⟨g', { ht with other := fun a t v hr ha hn => ht.other a t v hr ha fun j hj => hn (j + 1) (by simpa using hj) }, fun j y hj => ?_⟩
    cases j with
    | zero =>
      simp at hj
      subst hj
      obtain ⟨⟨a, h1⟩, h2, h3⟩ := hl 0 x rfl
      exact h1.keeps h2 (by rw [← hd]; exact ht.keeps) (fun r hr => by rw [hx]; exact h3 r hr)
    | succ j => exact hr j y (by simpa using hj)
  | @take r c t l l' us hp ht h ih =>
    intro τ g hc hd hx hpl hdi q vs hq hap hl
    have hpτ := hpl r c t (by simp) hp
    rw [distinct_iff] at hdi
    simp only [keysOf, Upd.key, List.singleton_append, List.nodup_cons] at hdi
    obtain ⟨hd1, hd2⟩ := hdi
    obtain ⟨hc1, v, hv, hv'⟩ := hc.take1 hpτ (p := []) (x := t) rfl (q 0) (by rw [hx]; exact hq 0)
    have hout : ∀ (r' : Root) (c' : Nat), τ.ex r' → r' ≠ (q 0).root := fun r' c' h1 e => hq 0 (by rw [← hx, ← e]; exact h1)
    have hk1 : Keeps w w g (g.reg ⟨r, c, []⟩ (q 0)) τ.dirty τ.dirty τ.ex := ⟨Nat.le_refl _, fun b _ h => ⟨Gh.reg_fz _ _ _ h, rfl⟩,
      fun r' c' h1 h2 => ⟨h2, fun s => Gh.reg_hd _ _ _ fun e => hout r' c' h1 e.1⟩, fun _ _ => rfl⟩
    have hex1 : (τ.upd (.set r c (t.put [] .top))).ex = τ.ex := Sg.setP_ex _ _ _ _
    have hdi1 : (τ.upd (.set r c (t.put [] .top))).dirty = τ.dirty := Sg.setP_dirty _ _ _ _
    obtain ⟨g', ht', hr⟩ := ih (τ.upd (.set r c (t.put [] .top))) _ hc1 (hdi1.trans hd) (hex1.trans hx) (fun r' c' t' hm hp' => hpτ.hole (hpl r' c' t' (by simp [hm]) hp') (by
        rintro ⟨rfl, rfl⟩
        exact hd1 (keysOf_mem hm (by simp [Upd.key])))) ((distinct_iff _).2 hd2) (fun j => q (j + 1)) (fun j => vs (j + 1)) (fun j => hq _) (fun i j h1 h2 => hap _ _ (by omega) (by simpa using h2)) (fun j x hj => by
        obtain ⟨⟨a, h1⟩, h2, h3⟩ := hl (j + 1) x (by simpa using hj)
        exact ⟨⟨a, h1.keeps h2 (by rw [← hd]; exact hk1) (fun r hr => by rw [hx]; exact h3 r hr)⟩, h2, h3⟩)
    refine ⟨g', ⟨ht'.core, (Gh.reg_move w g _ _ (Sg.nob (hq 0))).trans ht'.move, ?_, fun a t' v' hr' ha hn => ?_, ht'.isnew.trans (Sg.setP_isnew _ _ _ _), ht'.ex.trans hex1, ht'.dirty.trans hdi1, ht'.kind.trans (Sg.setP_kind _ _ _ _), ht'.mp.trans (Sg.setP_mp _ _ _ _)⟩, fun j y hj => ?_⟩
    · refine Keeps.trans (Nat.le_refl _) hk1 ?_
      have := ht'.keeps
      rw [hex1, hdi1] at this
      exact this
    · refine ht'.other a t' v' (hr'.reg_other (CA.apart_root (fun e => ha (by rw [e]; exact hpτ.ex))) (hn 0 (by simp))) (by rw [hex1]; exact ha) fun j hj => hn (j + 1) (by simpa using hj)
    · cases j with
      | zero =>
        simp at hj
        subst hj
        obtain ⟨⟨a, h1⟩, h2, h3⟩ := hl 0 _ rfl
        have e1 : vs 0 = g.hd ⟨r, c, []⟩ := by
          cases h1 with | ref h _ => exact h hp.dirty
        have e2 : v = g.hd ⟨r, c, []⟩ := by
          unfold T.isOwn at ht
          split at ht
          · exact hv.own_hd
          · cases ht
        rw [e1, ← e2]
        exact .t (ht'.other _ _ _ hv' (by rw [hex1, hx]; exact hq 0) fun j hj => hap 0 (j + 1) (by omega) (by simpa using hj))
      | succ j => exact hr j y (by simpa using hj)
end Vx

namespace Vx
open Go Classical
set_option linter.unusedSimpArgs false
set_option linter.unusedVariables false

/-! ## A new block -/
def _root_.Go.World.plus (w : World) (ob : Obj) : World := { w with heap := w.heap.push ob }
theorem plus_old {w : World} {ob : Obj} {b : Nat} (h : b < w.heap.size) : (w.plus ob).heap[b]? = w.heap[b]? := by
  simp only [World.plus]
  rw [Array.getElem?_push_lt h, Array.getElem?_eq_getElem h]
theorem plus_new (w : World) (ob : Obj) : (w.plus ob).heap[w.heap.size]? = some ob := Array.getElem?_push_size
theorem plus_size (w : World) (ob : Obj) : (w.plus ob).heap.size = w.heap.size + 1 := by simp [World.plus]
noncomputable def Gh.fresh (g : Gh) (b : Nat) (tag : Tag) (hd : CA → Value) (bl : Nat → Nat × Nat × Nat) : Gh :=
  { g with ow := fun i => if i = b then tag else g.ow i, hd := hd, bl := bl }
section
variable {w : World} {g : Gh} {ob : Obj} {tag : Tag} {hd : CA → Value} {bl : Nat → Nat × Nat × Nat}
theorem fresh_ow {b : Nat} (h : b < w.heap.size) : (g.fresh w.heap.size tag hd bl).ow b = g.ow b := by
  simp only [Gh.fresh]
  rw [if_neg (Nat.ne_of_lt h)]
theorem fresh_keeps {d : Dirt} {S : Root → Prop} (h1 : ∀ r c p, S r → hd ⟨r, c, p⟩ = g.hd ⟨r, c, p⟩) (h2 : ∀ k, S (.obj k) → bl k = g.bl k) : Keeps w (w.plus ob) g (g.fresh w.heap.size tag hd bl) d d S :=
  ⟨Nat.le_refl _, fun b hb h => ⟨(fresh_ow hb).trans h, plus_old hb⟩, fun r c hr h => ⟨h, fun p => h1 r c p hr⟩, fun k hk => h2 k hk⟩
theorem fresh_still {r : Root} {c : Nat} (h1 : ∀ p, hd ⟨r, c, p⟩ = g.hd ⟨r, c, p⟩) : Still w (w.plus ob) g (g.fresh w.heap.size tag hd bl) r c :=
  ⟨fun b p hb h => ⟨(fresh_ow hb).trans h, plus_old hb⟩, fun p => h1 p⟩
theorem fresh_move (h2 : ∀ k, k < 1000 → bl k = g.bl k) (h3 : ∀ k c p, hd ⟨.obj k, c, p⟩ = g.hd ⟨.obj k, c, p⟩) : Move w g (w.plus ob) (g.fresh w.heap.size tag hd bl) :=
  ⟨by rw [plus_size]; omega, rfl, fun b hb h => ⟨fresh_ow hb, plus_old hb⟩, h2, fun b k hb hk h => ⟨(fresh_ow hb).trans h, fun cs el fr hh => ⟨cs, (plus_old hb).trans hh, rfl, fun _ _ => rfl⟩⟩, ⟨rfl, rfl, rfl⟩, fun k c p _ _ => h3 k c p⟩
theorem Core.fresh {E : Env} {σ : Sg} {tmps : Array Value} (hc : Core E σ tmps w g) (h1 : ∀ r c p, σ.ex r → hd ⟨r, c, p⟩ = g.hd ⟨r, c, p⟩) (h2 : ∀ k, σ.ex (.obj k) → bl k = g.bl k) : Core E σ tmps (w.plus ob) (g.fresh w.heap.size tag hd bl) := by
  refine Core.step hc (fresh_keeps h1 h2) (fun n => .inl ⟨rfl, rfl, rfl, fun c => fresh_still fun p => h1 _ _ p (σ.rt_ex n)⟩)
    (fun k kd h => .inl ⟨h, fun c => ⟨rfl, fresh_still fun p => h1 _ _ p (.inr (.inl (by rw [h]; simp)))⟩, fun hb hj => ⟨(fresh_ow hb).trans hj, plus_old hb⟩⟩) (fun k c => .inl rfl)
    (fun k es h => .inl ⟨h, fun hb hj => ⟨(fresh_ow hb).trans hj, plus_old hb⟩⟩) (fun _ h => h)
    (fun b hb => ⟨fresh_ow (Nat.lt_of_lt_of_le hb hc.size), plus_old (Nat.lt_of_lt_of_le hb hc.size)⟩) (by rw [plus_size]; omega)
theorem Rep.fresh {a : CA} {t : T} {v : Value} (h : Rep w g a t v) (h1 : ∀ a', a'.under a → hd a' = g.hd a') : Rep (w.plus ob) (g.fresh w.heap.size tag hd bl) a t v :=
  h.frame (Nat.le_refl _) (fun b hb h => ⟨(fresh_ow hb).trans h, plus_old hb⟩) (fun b a' hb _ h => ⟨(fresh_ow hb).trans h, plus_old hb⟩) h1
end

/-- A new box. -/
theorem Core.newbox {E : Env} {σ : Sg} {tmps : Array Value} {w : World} {g : Gh} (hc : Core E σ tmps w g) {k : Nat} (hk : ¬ σ.ex (.obj k)) {cs : Array Value} {el : TypeId} {row : List C}
    (hrow : ∀ j x, row[j]? = some x → ∃ u, cs[j]? = some u ∧ CRep w g σ.dirty ⟨.obj k, j, []⟩ x u) (hlen : row.length = cs.size) (hroots : ∀ x ∈ row, ∀ r ∈ x.roots, σ.ex r) :
    Core E (σ.upd (.box k row)) tmps (w.plus (.cells cs el (0, 0))) (g.fresh w.heap.size (.box k) g.hd fun i => if i = k then (w.heap.size, 0, row.length) else g.bl i) := by
  have hbl : ∀ k', σ.ex (.obj k') → (fun i => if i = k then (w.heap.size, 0, row.length) else g.bl i) k' = g.bl k' := by
    intro k' h
    simp only
    rw [if_neg]
    rintro rfl
    exact hk h
  have hc1 := hc.fresh (ob := .cells cs el (0, 0)) (tag := .box k) (hd := g.hd) (bl := fun i => if i = k then (w.heap.size, 0, row.length) else g.bl i) (fun _ _ _ _ => rfl) hbl
  have hex : ∀ r, σ.ex r → (σ.upd (.box k row)).ex r := by
    intro r h
    cases r with
    | obj j =>
      simp only [Sg.ex, Sg.upd] at h ⊢
      by_cases e : j = k
      · subst e; right; left; simp
      · rcases h with h | h | h
        · exact .inl h
        · right; left; simpa [e] using h
        · exact .inr (.inr h)
    | _ => exact h
  refine Core.step hc1 (Keeps.refl _ _ _ _) (fun n => .inl ⟨rfl, rfl, rfl, fun c => Still.refl _ _ _ _⟩) (fun j kd h => ?_) (fun j c => ?_) (fun j es h => .inl ⟨h, fun _ h => ⟨h, rfl⟩⟩) hex (fun b _ => ⟨rfl, rfl⟩) (Nat.le_refl _)
  · by_cases e : j = k
    · subst e
      right
      simp only [Sg.upd, if_true] at h
      cases h
      refine ⟨cs, el, ?_, ?_, ?_, ?_, fun c hcl => ?_⟩
      · simp only [Gh.fresh, if_true]; exact plus_new _ _
      · simp [Gh.fresh]
      · simp [Gh.fresh]
      · simp [Gh.fresh, hlen]
      · obtain ⟨u, h1, h2⟩ := hrow c row[c] (List.getElem?_eq_getElem hcl)
        refine ⟨u, by simpa [Gh.fresh] using h1, ?_⟩
        have : (σ.upd (.box j row)).cell j c = row[c] := by simp [Sg.upd, List.getD, hcl]
        rw [this]
        exact h2.still (fresh_keeps (d := σ.dirty) (S := σ.ex) (fun _ _ _ _ => rfl) hbl) (hroots _ (List.getElem_mem _)) (fresh_still fun _ => rfl)
    · left
      have h' : σ.kind j = some kd := by simpa [Sg.upd, e] using h
      exact ⟨h', fun c => ⟨by simp [Sg.upd, e], Still.refl _ _ _ _⟩, fun _ h => ⟨h, rfl⟩⟩
  · by_cases e : j = k
    · subst e
      right
      intro r hr
      apply hex
      have : (σ.upd (.box j row)).cell j c = row.getD c (.t .top) := by simp [Sg.upd]
      rw [this] at hr
      rcases Nat.lt_or_ge c row.length with hcl | hcl
      · rw [List.getD, List.getElem?_eq_getElem hcl] at hr
        exact hroots _ (List.getElem_mem _) r hr
      · rw [List.getD, List.getElem?_eq_none hcl] at hr
        simp [C.roots] at hr
    · left
      simp [Sg.upd, e]

theorem TkL.roots {σ : Sg} {l l' : List C} {us : List Upd} (h : TkL σ l l' us) : ∀ x ∈ l', ∀ r ∈ x.roots, ∃ y ∈ l, r ∈ y.roots := by
  induction h with
  | nil => intro x hx; cases hx
  | keep h ih =>
    intro x hx r hr
    rcases List.mem_cons.1 hx with e | e
    · subst e; exact ⟨_, by simp, hr⟩
    · obtain ⟨y, h1, h2⟩ := ih x e r hr
      exact ⟨y, by simp [h1], h2⟩
  | take hp ht h ih =>
    intro x hx r hr
    rcases List.mem_cons.1 hx with e | e
    · subst e; simp [C.roots] at hr
    · obtain ⟨y, h1, h2⟩ := ih x e r hr
      exact ⟨y, by simp [h1], h2⟩
theorem Rep.one {w : World} {g : Gh} {a : CA} {x : T} {v : Value} (h : Rep w g a x v) (ho : x.one = true) : v.oneCell' = true := by
  cases h with
  | fro h => cases h <;> first | rfl | exact ho | (simp [T.one] at ho)
  | onil => rfl
  | own => rfl
theorem CRep.one {w : World} {g : Gh} {d : Dirt} {a : CA} {x : C} {v : Value} (h : CRep w g d a x v) (ho : x.one = true) : v.oneCell' = true := by
  cases h with
  | t h =>
    refine h.one ?_
    rename_i y
    cases y <;> first | rfl | exact ho
  | ref _ h1 => exact h1
  | ptr _ _ h1 => exact h1
  | fp => rfl
  | clo => rfl
  | mp h => subst h; rfl
theorem cells_one {v : Value} (h : v.oneCell' = true) : v.cells = #[v] := by
  cases v <;> first | rfl | (simp [Value.oneCell'] at h)

/-- The cells of an operand that is one row. -/
theorem SVRep.row {w : World} {g : Gh} {d : Dirt} {r : Root} {sv : SV} {v : Value} {row : List C} (h : SVRep w g d r 0 sv v) (hr : sv.row = some row) :
    ∃ vs : Nat → Value, (∀ j x, row[j]? = some x → CRep w g d ⟨r, j, []⟩ x (vs j)) ∧ (v.oneCell' = true → sv = .c (row.getD 0 (.t .top)) → v.cells = ((List.range row.length).map vs).toArray) ∧
      ((∃ l, sv = .agg l) → v.cells = ((List.range row.length).map vs).toArray) := by
  cases h with
  | c h =>
    cases hr
    refine ⟨fun _ => v, fun j x hj => ?_, fun ho _ => by rw [cells_one ho]; rfl, fun ⟨l, e⟩ => by cases e⟩
    cases j with
    | zero => simp at hj; subst hj; exact h
    | succ j => simp at hj
  | agg vs h =>
    cases hr
    exact ⟨vs, fun j x hj => by have := h j x hj; rwa [Nat.zero_add] at this, fun _ e => (by cases e), fun _ => rfl⟩
  | tup vs h => cases hr

/-- All cells of an operand are single ones. -/
theorem SVRep.cells {w : World} {g : Gh} {d : Dirt} {r : Root} {sv : SV} {v : Value} {row : List C} (h : SVRep w g d r 0 sv v) (hr : sv.row = some row) (h1 : ∀ x, sv = .c x → v.oneCell' = true) :
    ∃ vs : Nat → Value, (∀ j x, row[j]? = some x → CRep w g d ⟨r, j, []⟩ x (vs j)) ∧ v.cells = ((List.range row.length).map vs).toArray := by
  obtain ⟨vs, a1, a2, a3⟩ := h.row hr
  refine ⟨vs, a1, ?_⟩
  cases sv with
  | c x =>
    cases hr
    exact a2 (h1 x rfl) rfl
  | agg l => exact a3 ⟨l, rfl⟩
  | tup l => cases hr
end Vx

namespace Vx
open Go Classical
set_option linter.unusedSimpArgs false
set_option linter.unusedVariables false

def SV.clean1 : SV → Bool
  | .c x => !x.isOwn
  | .agg row => row.all fun x => !x.isOwn
  | .tup _ => false
theorem SVRep.move0 {w : World} {g : Gh} {d : Dirt} {r r' : Root} {n : Nat} {sv : SV} {v : Value} (h : SVRep w g d r n sv v) (hn : sv.clean1 = true) : SVRep w g d r' 0 sv v := by
  cases h with
  | c h => exact .c (h.repos (by simpa [SV.clean1] using hn))
  | agg vs h => exact .agg vs fun j x hj => (h j x hj).repos (by
      simp only [SV.clean1, List.all_eq_true] at hn
      simpa using hn x (List.mem_of_getElem? hj))
  | tup vs h => simp [SV.clean1] at hn
theorem SV.alias1_clean {sv : SV} (h : ∀ l, sv ≠ .tup l) (r : Root) (n : Nat) : (sv.alias1 r n).clean1 = true := by
  cases sv with
  | c x => simp [SV.alias1, SV.clean1, C.alias_isOwn]
  | agg row =>
    simp only [SV.alias1, SV.clean1, List.all_eq_true]
    intro y hy
    obtain ⟨j, hj⟩ := List.getElem?_of_mem hy
    obtain ⟨z, _, e⟩ := aliasFrom_get hj
    rw [e]; simp [C.alias_isOwn]
  | tup l => exact absurd rfl (h l)

theorem rdS_ok2 {σ : Sg} {x : Operand} {f : SV → Rd Eff} (h : ((rdS x f).run σ).ok) : ∃ sv, (rdS x f).run σ = (f sv).run σ ∧ (∀ r ∈ sv.roots, ∀ E tmps w g, Core E σ tmps w g → σ.ex r) ∧
    (∀ E a w g, Core E σ (Act.tmps a) w g → LIM ≤ g.lim → okOpd x = true → ∀ r, SVRep w g σ.dirty r 0 sv (a.eval x)) ∧ (∀ row, sv.row = some row → ∀ y ∈ row, y.isOwn = false) ∧ ∀ E tmps w g, Core E σ tmps w g → ∀ l, sv = .tup l → ∀ x ∈ l, x.clean1 = true := by
  cases x with
  | tmp n =>
    refine ⟨(σ.slot n).alias (σ.rt n), rfl, fun r hr E tmps w g hc => ?_, fun E a w g hc _ _ r => (hc.slots n).alias (hc.flat n) r, fun row hrow y hy => ?_, fun E tmps w g hc l hl x hx => ?_⟩
    · rcases SV.alias_roots _ _ r hr with h | h
      · rw [h]; exact σ.rt_ex n
      · exact hc.liveS n r h
    · cases hs : σ.slot n with
      | c x => rw [hs] at hrow; cases hrow; simp at hy; subst hy; exact C.alias_isOwn _ _
      | agg l =>
        rw [hs] at hrow; cases hrow
        obtain ⟨j, hj⟩ := List.getElem?_of_mem hy
        obtain ⟨z, _, e⟩ := aliasFrom_get hj
        rw [e]; exact C.alias_isOwn _ _
      | tup l => rw [hs] at hrow; cases hrow
    · have hf := hc.flat n
      cases hs : σ.slot n with
      | tup l0 =>
        rw [hs] at hl hf
        cases hl
        obtain ⟨j, hj⟩ := List.getElem?_of_mem hx
        obtain ⟨y, h1, e⟩ := aliasTup_get hj
        rw [e]
        refine SV.alias1_clean (fun l' e' => ?_) _ _
        simp only [SV.flat, List.all_eq_true] at hf
        have := hf y (List.mem_of_getElem? h1)
        rw [e'] at this
        simp at this
      | c x => rw [hs] at hl; cases hl
      | agg row => rw [hs] at hl; cases hl
  | const v =>
    refine ⟨SV.ofV v, rfl, fun r hr => by rw [ofV_roots] at hr; simp at hr, fun E a w g _ hl ho r => SVRep.ofV hl ho, fun row hrow y hy => ?_, fun _ _ _ _ _ l hl => by unfold SV.ofV at hl; split at hl <;> cases hl⟩
    unfold SV.ofV at hrow
    split at hrow
    · cases hrow
      obtain ⟨v, _, rfl⟩ := List.mem_map.1 hy
      exact T.ofV_notOwn v
    · cases hrow
      simp at hy; subst hy
      exact T.ofV_notOwn v
  | func f' =>
    refine ⟨_, rfl, fun r hr => by simp [SV.roots, C.roots, C.rootsL] at hr, fun E a w g _ _ _ r => .c ?_, fun row hrow y hy => by cases hrow; simp at hy; subst hy; rfl, fun _ _ _ _ _ l hl => by cases hl⟩
    have := CRep.clo (w := w) (g := g) (d := σ.dirty) (a := ⟨r, 0, []⟩) (f := f') (caps := []) (fun _ => undef) (by simp) (fun j x hj => by simp at hj)
    simpa [Act.eval] using this
  | global g => exact h.elim

def CellsOK (σ : Sg) (w : World) (g : Gh) (l : List C) (vs : Nat → Value) : Prop :=
  ∀ j x, l[j]? = some x → (∃ a, CRep w g σ.dirty a x (vs j)) ∧ x.isOwn = false ∧ ∀ r ∈ x.roots, σ.ex r
theorem cell_apart (r : Root) {i j : Nat} (h : i ≠ j) (p q : List Hop) : (⟨r, i, p⟩ : CA).apart ⟨r, j, q⟩ := ⟨fun e => h e.2.1, fun e => h e.2.1.symm⟩
theorem upds_append (σ : Sg) (us vs : List Upd) : σ.upds (us ++ vs) = (σ.upds us).upds vs := by simp [Sg.upds]

section
variable {E : Env} {N : Nat} {o : Oper} {σ : Sg}

theorem TkL.at_root {tmps : Array Value} {w : World} {g : Gh} {l l' : List C} {us : List Upd} (ht : TkL σ l l' us) (hc : Core E σ tmps w g) (hd : distinct (keysOf us) = true) {r : Root} (hr : ¬ σ.ex r) {vs : Nat → Value} (hl : CellsOK σ w g l vs) :
    ∃ g', Took E tmps w σ (σ.upds us) g g' (fun j => ⟨r, j, []⟩) l.length ∧ ∀ j x, l'[j]? = some x → CRep w g' σ.dirty ⟨r, j, []⟩ x (vs j) :=
  ht.core σ g hc rfl rfl (fun _ _ _ _ h => h) hd (fun j => ⟨r, j, []⟩) vs (fun _ => hr) (fun i j h _ => cell_apart r (by omega) _ _) hl

theorem dst_lt (hN : okOper N o = true) {d : Nat} (hd : o.dst = some d) : d < N := by
  unfold okOper at hN
  rw [hd] at hN
  simp at hN
  exact hN.1

/-- An operation whose result is made of what its operands hold or had. -/
theorem OpOK.took (hN : okOper N o = true) {x : SV} {us ups : List Upd} {ok : Prop} {l l' : List C} (hok : ((Vx.put o x us ok).run σ).ok) (ht : TkL σ l l' us) (hups : ups = ((Vx.put o x us ok).run σ).upd)
    (hfl : x.flat = true) (hx : ∀ r ∈ x.roots, ∃ y ∈ l', r ∈ y.roots)
    (h : ∀ (a : Act) w g, Core E σ a.tmps w g → LIM ≤ g.lim → ∃ v vs, (execOp a.eval o).run E.P w = .ok (.value v) w ∧ CellsOK σ w g l vs ∧
      ∀ g' r, (∀ j y, l'[j]? = some y → CRep w g' σ.dirty ⟨r, j, []⟩ y (vs j)) → SVRep w g' σ.dirty r 0 x v) : OpOK E N o σ ups := by
  intro a w g hc hs hl K Q hK
  obtain ⟨v, vs, he, hcells, hsv⟩ := h a w g hc hl
  unfold Oper.wp
  rw [he, Oper.upon_value]
  obtain ⟨h1, h2, h3⟩ := put_ok hok
  cases hd : o.dst with
  | none =>
    obtain ⟨e, hdi⟩ := h3 hd
    obtain ⟨g', tk, _⟩ := ht.at_root hc hdi (r := .ret) (fun h => h) hcells
    refine hK _ w g' ?_ tk.move hs rfl
    rw [hups, e]
    exact tk.core
  | some d =>
    obtain ⟨hn, e, hdi⟩ := h2 d hd
    obtain ⟨g', tk, hr⟩ := ht.at_root hc (distinct_left hdi) (r := .new d) (fun h => by simp [Sg.ex, hn] at h) hcells
    refine hK _ w g' ?_ tk.move (by simpa [Act.put] using hs) rfl
    rw [hups, e, upds_append]
    refine tk.core.put (by rw [tk.isnew]; exact hn) ?_ (fun r hr => ?_) hfl (.inl (by rw [hs]; exact dst_lt hN hd))
    · rw [tk.dirty]; exact hsv g' _ hr
    · rw [tk.ex]
      obtain ⟨y, hy1, hy2⟩ := hx r hr
      obtain ⟨z, hz1, hz2⟩ := ht.roots y hy1 r hy2
      obtain ⟨j, hj⟩ := List.getElem?_of_mem hz1
      exact (hcells j z hj).2.2 r hz2

theorem ok_assign (hN : okOper N o = true) {x : Operand} (ho : o.op = .assign x) (h : ((astep E.P o).run σ).ok) : OpOK E N o σ ((astep E.P o).run σ).upd := by
  have hopd : okOpd x = true := okOper_opd hN (by rw [ho]; simp [Op.operands])
  simp only [astep, ho] at h ⊢
  obtain ⟨sv, e1, hr, e2, e3, _⟩ := rdS_ok2 h
  rw [e1] at h ⊢
  cases sv with
  | c x0 =>
    simp only at h ⊢
    obtain ⟨l', us, ht, e⟩ := moveL_ok h
    rw [e] at h ⊢
    rcases l' with _ | ⟨y, _ | ⟨z, l'⟩⟩
    · exact h.elim
    · simp only at h ⊢
      refine OpOK.took hN h ht rfl rfl (fun r hr => ⟨y, by simp, hr⟩) fun a w g hc hl => ⟨a.eval x, fun _ => a.eval x, by simp [execOp, ho], fun j u hj => ?_, fun g' r hc' => .c (hc' 0 y rfl)⟩
      cases j with
      | zero =>
        simp at hj
        subst hj
        have hx := e2 E a w g hc hl hopd .ret
        cases hx with | c hx => exact ⟨⟨_, hx⟩, e3 _ rfl _ (by simp), fun r hq => hr r hq _ _ _ _ hc⟩
      | succ j => simp at hj
    · exact h.elim
  | agg row =>
    simp only at h ⊢
    obtain ⟨l', us, ht, e⟩ := moveL_ok h
    rw [e] at h ⊢
    refine OpOK.took hN h ht rfl rfl (fun r hr => by simp only [SV.roots] at hr; exact C.mem_rootsL.1 hr) fun a w g hc hl => ?_
    have hx := e2 E a w g hc hl hopd .ret
    revert hx
    generalize hv : a.eval x = v
    intro hx
    cases hx with
    | agg vs hx =>
      refine ⟨.agg ((List.range row.length).map vs).toArray, vs, by simp [execOp, ho, hv], fun j u hj => ⟨⟨_, hx j u hj⟩, e3 _ rfl _ (List.mem_of_getElem? hj), fun r hq => hr r (by simp only [SV.roots]; exact C.mem_rootsL.2 ⟨u, List.mem_of_getElem? hj, hq⟩) _ _ _ _ hc⟩, fun g' r hc' => ?_⟩
      rw [← ht.length]
      exact .agg vs fun j u hj => by rw [Nat.zero_add]; exact hc' j u hj
  | tup l => exact h.elim

theorem ok_extract (hN : okOper N o = true) {x : Operand} {i : Nat} (ho : o.op = .extract x i) (h : ((astep E.P o).run σ).ok) : OpOK E N o σ ((astep E.P o).run σ).upd := by
  have hopd : okOpd x = true := okOper_opd hN (by rw [ho]; simp [Op.operands])
  simp only [astep, ho] at h ⊢
  obtain ⟨sv, e1, hr, e2, _, e4⟩ := rdS_ok2 h
  rw [e1] at h ⊢
  cases sv with
  | tup l =>
    simp only at h ⊢
    cases hi : l[i]? with
    | none => rw [hi] at h; exact h.elim
    | some y =>
      rw [hi] at h
      simp only at h ⊢
      obtain ⟨hrow, _⟩ := put_ok h
      refine OpOK.pure hN h rfl (fun a w g hc hl => ?_) (SV.flat_row hrow)
      have hlt := lt_of_getElem? hi
      obtain ⟨vs, hvs⟩ : ∃ vs : Nat → Value, a.eval x = .tuple ((List.range l.length).map vs).toArray := by
        have hx := e2 E a w g hc hl hopd .ret
        revert hx
        generalize a.eval x = v
        intro hx
        cases hx with | tup vs _ => exact ⟨vs, rfl⟩
      refine ⟨vs i, ?_, fun r => ?_, fun r hq => hr r (by simp only [SV.roots]; exact SV.mem_rootsL.2 ⟨y, List.mem_of_getElem? hi, hq⟩) _ _ _ _ hc⟩
      · simp [execOp, ho, hvs, Instr.extract, hlt]
      · have hcl := e4 _ _ _ _ hc l rfl y (List.mem_of_getElem? hi)
        have hx := e2 E a w g hc hl hopd r
        rw [hvs] at hx
        generalize hgen : ((List.range l.length).map vs).toArray = arr at hx
        cases hx with
        | tup us hx =>
          have := hx i y hi
          have he : us i = vs i := by
            have := congrArg (fun z => z[i]?) hgen
            simp [hlt] at this
            exact this.symm
          rw [he] at this
          exact this.move0 hcl
  | _ => exact h.elim
end
end Vx

namespace Vx
open Go Classical
set_option linter.unusedSimpArgs false
set_option linter.unusedVariables false

inductive F2 {α β : Type} (R : α → β → Prop) : List α → List β → Prop where
  | nil : F2 R [] []
  | cons {a b l m} (h : R a b) (t : F2 R l m) : F2 R (a :: l) (b :: m)
theorem F2.mono {α β : Type} {R S : α → β → Prop} {l : List α} {m : List β} (h : F2 R l m) (hs : ∀ a b, R a b → S a b) : F2 S l m := by
  induction h with
  | nil => exact .nil
  | cons h t ih => exact .cons (hs _ _ h) ih

theorem rdRow_ok {σ : Sg} {x : Operand} {f : List C → Rd Eff} (h : ((rdRow x f).run σ).ok) : ∃ row, (rdRow x f).run σ = (f row).run σ ∧
    ∀ E a w g, Core E σ (Act.tmps a) w g → LIM ≤ g.lim → okOpd x = true → ∃ vs, CellsOK σ w g row vs ∧ (a.eval x).cells = ((List.range row.length).map vs).toArray := by
  unfold rdRow at h ⊢
  obtain ⟨sv, e1, hr, e2, e3, _⟩ := rdS_ok2 h
  rw [e1] at h ⊢
  cases sv with
  | c y =>
    simp only at h ⊢
    by_cases ho : y.one = true
    · rw [if_pos ho] at h ⊢
      refine ⟨[y], rfl, fun E a w g hc hl hopd => ?_⟩
      have hx := e2 E a w g hc hl hopd .ret
      obtain ⟨vs, h1, h2⟩ := hx.cells rfl (fun z hz => by cases hz; cases hx with | c hx => exact hx.one ho)
      exact ⟨vs, fun j z hj => ⟨⟨_, h1 j z hj⟩, e3 _ rfl z (List.mem_of_getElem? hj), fun r hq => hr r (by
        have := List.mem_of_getElem? hj
        simp at this; subst this; exact hq) _ _ _ _ hc⟩, h2⟩
    · rw [if_neg ho] at h; exact h.elim
  | agg row =>
    simp only at h ⊢
    refine ⟨row, rfl, fun E a w g hc hl hopd => ?_⟩
    have hx := e2 E a w g hc hl hopd .ret
    obtain ⟨vs, h1, h2⟩ := hx.cells rfl (fun z hz => by cases hz)
    exact ⟨vs, fun j z hj => ⟨⟨_, h1 j z hj⟩, e3 _ rfl z (List.mem_of_getElem? hj), fun r hq => hr r (by simp only [SV.roots]; exact C.mem_rootsL.2 ⟨z, List.mem_of_getElem? hj, hq⟩) _ _ _ _ hc⟩, h2⟩
  | tup l => exact h.elim

theorem tinfo_zero {P : Program} {t : TypeId} {i : TI} (h : tinfo P t = some i) (h1 : i.zero.length = i.size) (h2 : 0 < i.size) : ∃ inf z, P.info? t = some inf ∧ inf.zero = some z ∧ i.zero = z.cells.toList.map T.ofV ∧ z.cells.all smallC = true ∧ inf.size = i.size ∧ z.cells.size = i.size := by
  obtain ⟨inf, d, a1, a2, a3, _, a5, _⟩ := tinfo_some h
  cases hz : inf.zero with
  | none => rw [hz] at a5; rw [a5] at h1; simp at h1; omega
  | some z =>
    rw [hz] at a5
    simp only at a5
    cases hs : z.cells.all smallC with
    | false => rw [hs] at a5; rw [a5] at h1; simp at h1; omega
    | true =>
      rw [hs] at a5
      simp only [if_true] at a5
      refine ⟨inf, z, a1, hz, a5, hs, a3.symm, ?_⟩
      rw [a5] at h1
      simpa using h1

/-- Cells and what they stand for. -/
def RelRow (R : C → Value → Prop) (row : List C) (cells : Array Value) : Prop := cells.size = row.length ∧ ∀ (j : Nat) (x : C) (u : Value), row[j]? = some x → cells[j]? = some u → R x u
theorem fill_rel {R : C → Value → Prop} {fld : List (Nat × Nat)} {place : Nat → Option (Nat × Nat)} (hpl : ∀ i p, fld[i]? = some p → place i = some p) :
    ∀ (ps : List (Nat × List C)) (vals : List (Nat × Value)) (row : List C) (cells : Array Value) (row' : List C), F2 (fun p q => p.1 = q.1 ∧ RelRow R p.2 q.2.cells) ps vals → RelRow R row cells →
      buildRow fld row ps = some row' → ∃ cells', Instr.fill place cells vals = some cells' ∧ RelRow R row' cells'
  | [], vals, row, cells, row', hf, hr, hb => by
    cases hf
    simp only [buildRow, Option.some.injEq] at hb
    subst hb
    exact ⟨cells, rfl, hr⟩
  | (i, xs) :: ps, vals, row, cells, row', hf, hr, hb => by
    cases hf with
    | cons h1 h2 =>
      rename_i q vals
      obtain ⟨j, v⟩ := q
      obtain ⟨rfl, hv1, hv2⟩ := h1
      simp only at hv1 hv2
      simp only [buildRow] at hb
      split at hb
      · rename_i off n hfl
        split at hb
        · rename_i hcond
          obtain ⟨c1, c2, c3⟩ := hcond
          simp only [Instr.fill, hpl _ _ hfl]
          have hcs : ¬ (v.cells.size ≠ n ∨ off + v.cells.size > cells.size) := by rw [hv1, hr.1]; omega
          have hcs' : (decide (v.cells.size ≠ n) || decide (off + v.cells.size > cells.size)) = false := by rw [hv1, hr.1]; simp; omega
          obtain ⟨f1, f2⟩ := Go.Great.foldl_set off v.cells.toList 0 cells
          have hz : v.cells.zipIdx.foldl (fun cs (x : Value × Nat) => cs.setIfInBounds (off + x.2) x.1) cells = (v.cells.toList.zipIdx 0).foldl (fun cs (x : Value × Nat) => cs.setIfInBounds (off + x.2) x.1) cells := by
            rw [← Array.toList_zipIdx, Array.foldl_toList]
          rw [if_neg (by simpa using hcs)]
          refine fill_rel hpl ps vals _ _ row' h2 ⟨?_, fun k x u hk hu => ?_⟩ hb
          · show (v.cells.zipIdx.foldl (fun cs (x : Value × Nat) => cs.setIfInBounds (off + x.2) x.1) cells).size = _
            rw [hz, f1, hr.1]
            simp
            omega
          · have hu' : ((v.cells.toList.zipIdx 0).foldl (fun cs (x : Value × Nat) => cs.setIfInBounds (off + x.2) x.1) cells)[k]? = some u := by rw [← hz]; exact hu
            rw [f2 k] at hu'
            rw [List.append_assoc, List.getElem?_append] at hk
            have hlt : (row.take off).length = off := by simp; omega
            rw [hlt] at hk
            by_cases hko : k < off
            · rw [if_pos hko, List.getElem?_take, if_pos hko] at hk
              rw [if_neg (by omega)] at hu'
              exact hr.2 k x u hk hu'
            · rw [if_neg hko, List.getElem?_append] at hk
              by_cases hk2 : k - off < xs.length
              · rw [if_pos hk2] at hk
                rw [if_pos ⟨by omega, by simp; omega, by rw [hr.1]; omega⟩] at hu'
                exact hv2 (k - off) x u hk (by simpa using hu')
              · rw [if_neg hk2, List.getElem?_drop] at hk
                rw [if_neg (by simp; omega)] at hu'
                exact hr.2 k x u (by rw [← hk]; congr 1; omega) hu'
        · cases hb
      · cases hb

theorem rdParts_ok {σ : Sg} : ∀ {ps : List (Nat × Operand)} {f : List (Nat × List C) → Rd Eff}, ((rdParts ps f).run σ).ok → ∃ rs, (rdParts ps f).run σ = (f rs).run σ ∧
    ∀ E a w g, Core E σ (Act.tmps a) w g → LIM ≤ g.lim → (∀ p ∈ ps, okOpd p.2 = true) →
      F2 (fun p q => p.1 = q.1 ∧ RelRow (fun x u => (∃ b, CRep w g σ.dirty b x u) ∧ x.isOwn = false ∧ ∀ r ∈ x.roots, σ.ex r) p.2 q.2.cells) rs (ps.map fun p => (p.1, a.eval p.2))
  | [], f, h => ⟨[], rfl, fun _ _ _ _ _ _ _ => .nil⟩
  | (i, x) :: ps, f, h => by
    simp only [rdParts] at h ⊢
    obtain ⟨row, e1, h1⟩ := rdRow_ok h
    rw [e1] at h ⊢
    obtain ⟨rs, e2, h2⟩ := rdParts_ok h
    refine ⟨(i, row) :: rs, e2, fun E a w g hc hl ho => .cons ⟨rfl, ?_⟩ (h2 E a w g hc hl fun p hp => ho p (by simp [hp]))⟩
    obtain ⟨vs, c1, c2⟩ := h1 E a w g hc hl (ho (i, x) (by simp))
    refine ⟨by rw [c2]; simp, fun j y u hj hu => ?_⟩
    simp only at hj hu
    rw [c2] at hu
    have hlt := lt_of_getElem? hj
    simp [hlt] at hu
    subst hu
    exact c1 j y hj

theorem SVRep.ofRel {w : World} {g : Gh} {d : Dirt} {r : Root} {row : List C} {cells : Array Value} (h : RelRow (fun x u => ∃ b, CRep w g d b x u ∧ x.isOwn = false) row cells) : SVRep w g d r 0 (.agg row) (.agg cells) := by
  have := SVRep.agg (w := w) (g := g) (d := d) (r := r) (n := 0) (row := row) (fun j => cells.getD j undef) (fun j x hj => by
    have hlt := lt_of_getElem? hj
    have hj' : j < cells.size := by rw [h.1]; exact hlt
    have hc : cells[j]? = some (cells.getD j undef) := by simp [Array.getD_eq_getD_getElem?, hj']
    obtain ⟨b, h1, h2⟩ := h.2 j x _ hj hc
    exact h1.repos h2)
  have e : ((List.range row.length).map fun j => cells.getD j undef).toArray = cells := by
    apply Array.ext_getElem?
    intro j
    have h1 := h.1
    by_cases hj : j < row.length
    · have hj' : j < cells.size := by omega
      simp [hj, hj', Array.getD_eq_getD_getElem?]
    · have hj' : cells.size ≤ j := by omega
      simp [hj, hj']
  rw [e] at this
  exact this

section
variable {E : Env} {N : Nat} {o : Oper} {σ : Sg}

theorem zero_rel {w : World} {g : Gh} {d : Dirt} (hl : LIM ≤ g.lim) {z : Value} {zs : List T} (h1 : zs = z.cells.toList.map T.ofV) (h2 : z.cells.all smallC = true) (b : CA) :
    RelRow (fun x u => CRep w g d b x u ∧ x.isOwn = false ∧ x.roots = []) (zs.map C.t) z.cells := by
  subst h1
  refine ⟨by simp, fun j x u hj hu => ?_⟩
  simp only [List.getElem?_map, Option.map_eq_some_iff] at hj
  obtain ⟨t, ⟨v, hv, rfl⟩, rfl⟩ := hj
  have : v = u := by
    have : z.cells[j]? = some v := by simpa using hv
    rw [this] at hu; cases hu; rfl
  subst this
  refine ⟨.t (Rep.ofV hl ?_), T.ofV_notOwn _, rfl⟩
  rw [Array.all_eq_true] at h2
  obtain ⟨hlt, e⟩ := Array.getElem?_eq_some_iff.1 hu
  have := h2 j hlt
  rw [e] at this
  exact this

theorem ok_build (hN : okOper N o = true) {t : TypeId} {parts : Array (Nat × Operand)} (ho : o.op = .build t parts) (h : ((astep E.P o).run σ).ok) : OpOK E N o σ ((astep E.P o).run σ).upd := by
  have hopd : ∀ p ∈ parts.toList, okOpd p.2 = true := fun p hp => okOper_opd hN (by
    rw [ho]
    simp only [Op.operands]
    exact List.mem_toArray.2 (List.mem_map.2 ⟨p, hp, rfl⟩))
  simp only [astep, ho] at h ⊢
  cases hi : tinfo E.P t with
  | none => rw [hi] at h; exact h.elim
  | some i =>
    rw [hi] at h
    simp only at h ⊢
    obtain ⟨rs, e1, hrs⟩ := rdParts_ok h
    rw [e1] at h ⊢
    cases hb : buildRow i.fld (i.zero.map C.t) rs with
    | none => rw [hb] at h; exact h.elim
    | some row =>
      rw [hb] at h
      simp only at h ⊢
      obtain ⟨⟨hf1, hf2, hz1, hz2⟩, _⟩ := put_ok h
      obtain ⟨inf, z, a1, a2, a3, a4, a5, a6⟩ := tinfo_zero hi hz1 hz2
      obtain ⟨inf', d, b1, b2, _, _, _, b6, b7, _⟩ := tinfo_some hi
      have hstr : ∃ fs, d = .struct fs := by
        cases d with
        | struct fs => exact ⟨fs, rfl⟩
        | _ => simp [b7] at hf1
      obtain ⟨fs, rfl⟩ := hstr
      simp only at b7
      refine OpOK.pure hN h rfl fun a w g hc hl => ?_
      have hzr := zero_rel (w := w) (g := g) (d := σ.dirty) hl a3 a4 ⟨.ret, 0, []⟩
      obtain ⟨cells, hfill, hrel⟩ := fill_rel (R := fun x u => (∃ b, CRep w g σ.dirty b x u) ∧ x.isOwn = false ∧ ∀ r ∈ x.roots, σ.ex r) (fld := i.fld) (place := fun k => (i.fld.toArray[k]?)) (fun k p hk => by simpa using hk) rs _ _ z.cells row (hrs E a w g hc hl hopd)
        ⟨hzr.1, fun j x u hj hu => by obtain ⟨q1, q2, q3⟩ := hzr.2 j x u hj hu; exact ⟨⟨_, q1⟩, q2, by rw [q3]; simp⟩⟩ hb
      refine ⟨.agg cells, ?_, fun r => SVRep.ofRel ⟨hrel.1, fun j x u hj hu => by obtain ⟨⟨b, q1⟩, q2, _⟩ := hrel.2 j x u hj hu; exact ⟨b, q1, q2⟩⟩, fun r hq => ?_⟩
      · have hbuilt : E.P.built t (parts.map fun (i, x) => (i, a.eval x)).toList = some cells := by
          have hm : fs.toList.mapM (fun f => (E.P.info? f.type).map fun i => (f.offset, i.size)) = some i.fld := by
            rw [b7] at hf2 ⊢
            simp only [List.all_map, List.all_eq_true] at hf2
            clear hfill hrel hb b7 hf1 b2
            revert hf2
            generalize fs.toList = l
            intro hf2
            induction l with
            | nil => rfl
            | cons f l ih =>
              have h0 := hf2 f (by simp)
              have h1 := ih fun x hx => hf2 x (by simp [hx])
              simp only [List.mapM_cons, h1]
              cases hfi : E.P.info? f.type with
              | none => simp [hfi] at h0
              | some inf => simp [hfi]
          simp only [Program.built, a1, b2, a2, hm]
          rw [Array.toList_map]
          exact hfill
        simp [execOp, ho, run_build w t _ cells hbuilt]
      · simp only [SV.roots] at hq
        obtain ⟨x, hx, hx2⟩ := C.mem_rootsL.1 hq
        obtain ⟨j, hj⟩ := List.getElem?_of_mem hx
        have hlt := lt_of_getElem? hj
        have hlt' : j < cells.size := by rw [hrel.1]; exact hlt
        exact (hrel.2 j x _ hj (Array.getElem?_eq_getElem hlt')).2.2 r hx2
end
end Vx

namespace Vx
open Go Classical
set_option linter.unusedSimpArgs false
set_option linter.unusedVariables false

/-! ## Renaming places -/
structure Ren where
  S : CA → Prop
  D : CA → Prop
  f : CA → CA
  fi : CA → CA
  inv : ∀ a, S a → D (f a) ∧ fi (f a) = a
  hop : ∀ a, S a → ∀ h, S (a.hop h) ∧ f (a.hop h) = (f a).hop h
noncomputable def Gh.ren (g : Gh) (R : Ren) : Gh :=
  { g with
    ow := fun b => match g.ow b with
      | .own a => if R.S a then .own (R.f a) else if R.D a then .other else .own a
      | t => t
    hd := fun a => if R.D a then g.hd (R.fi a) else g.hd a }
theorem Ren.under (R : Ren) {a p : CA} (h : a.under p) (hp : R.S p) : R.S a := by
  obtain ⟨h1, h2, s, h3⟩ := h
  have : ∀ (s : List Hop) (a : CA), a.root = p.root → a.c = p.c → a.path = s ++ p.path → R.S a := by
    intro s
    induction s with
    | nil =>
      intro a h1 h2 h3
      have : a = p := by cases a; cases p; simp_all
      rw [this]; exact hp
    | cons x s ih =>
      intro a h1 h2 h3
      have : a = (⟨a.root, a.c, s ++ p.path⟩ : CA).hop x := by cases a; simp_all [CA.hop]
      rw [this]
      exact (R.hop _ (ih ⟨a.root, a.c, s ++ p.path⟩ h1 h2 rfl) x).1
  exact this s a h1 h2 h3
section
variable {w w' : World} {g : Gh} {R : Ren}
/-- What is frozen or owned stays in memory. -/
def Mem (w w' : World) (g : Gh) : Prop := ∀ b, b < w.heap.size → (g.ow b = .frozen ∨ ∃ a, g.ow b = .own a) → w'.heap[b]? = w.heap[b]?
theorem Mem.refl (w : World) (g : Gh) : Mem w w g := fun _ _ _ => rfl
theorem Gh.ren_fz {b : Nat} (h : g.ow b = .frozen) : (g.ren R).ow b = .frozen := by simp [Gh.ren, h]
theorem Gh.ren_other {b : Nat} (h : g.ow b = .other) : (g.ren R).ow b = .other := by simp [Gh.ren, h]
theorem Gh.ren_box {b k : Nat} (h : g.ow b = .box k) : (g.ren R).ow b = .box k := by simp [Gh.ren, h]
theorem Gh.ren_hd {a : CA} (h : ¬ R.D a) : (g.ren R).hd a = g.hd a := by
  show (if _ then _ else _) = _
  rw [if_neg h]
theorem Rep.ren {p : CA} {t : T} {v : Value} (h : Rep w g p t v) (hm : Mem w w' g) (hp : R.S p) : Rep w' (g.ren R) (R.f p) t v :=
  Rep.map (w' := w') (g' := g.ren R) R.f h (Nat.le_refl _) (fun a' ha s => (R.hop a' (R.under ha hp) s).2)
    (fun b hlt hb => ⟨Gh.ren_fz hb, hm b hlt (.inl hb)⟩) (fun b a' hlt ha hb => ⟨by simp [Gh.ren, hb, R.under ha hp], hm b hlt (.inr ⟨_, hb⟩)⟩)
    (fun a' ha => by
      obtain ⟨h1, h2⟩ := R.inv a' (R.under ha hp)
      show (if R.D (R.f a') then g.hd (R.fi (R.f a')) else g.hd (R.f a')) = g.hd a'
      rw [if_pos h1, h2])
theorem Gh.ren_still (hm : Mem w w' g) {r : Root} {c : Nat} (hS : ∀ p, ¬ R.S ⟨r, c, p⟩) (hD : ∀ p, ¬ R.D ⟨r, c, p⟩) : Still w w' g (g.ren R) r c := by
  refine ⟨fun b s hlt ho => ⟨?_, hm b hlt (.inr ⟨_, ho⟩)⟩, fun s => Gh.ren_hd (hD s)⟩
  simp only [Gh.ren, ho]
  rw [if_neg (hS s), if_neg (hD s)]
theorem FRep.ren {t : T} {v : Value} (h : FRep w g t v) (hm : Mem w w' g) : FRep w' (g.ren R) t v :=
  h.frame (Nat.le_refl _) fun b hb ho => ⟨Gh.ren_fz ho, hm b hb (.inl ho)⟩
end

/-! ## Cells stored into a box -/
/-- From the scratch root into the cells `c, c + 1, ..` of the box `k`: those of `row` that own. -/
def boxRen (k c : Nat) (row : List C) : Ren where
  S a := a.root = .ret ∧ ∃ x, row[a.c]? = some x ∧ x.isOwn = true
  D a := a.root = .obj k ∧ c ≤ a.c ∧ ∃ x, row[a.c - c]? = some x ∧ x.isOwn = true
  f a := ⟨.obj k, c + a.c, a.path⟩
  fi a := ⟨.ret, a.c - c, a.path⟩
  inv := by
    rintro ⟨r, j, p⟩ ⟨h1, x, h2, h3⟩
    simp only at h1 h2
    subst h1
    refine ⟨⟨rfl, Nat.le_add_right _ _, x, ?_, h3⟩, ?_⟩
    · simp only [Nat.add_sub_cancel_left]; exact h2
    · simp
  hop := by
    rintro ⟨r, j, p⟩ h1 h
    exact ⟨h1, rfl⟩

structure BoxUpd (σ σ' : Sg) (k c : Nat) (row : List C) : Prop where
  slot : σ'.slot = σ.slot
  isnew : σ'.isnew = σ.isnew
  kind : σ'.kind = σ.kind
  mp : σ'.mp = σ.mp
  cell : ∀ i j, σ'.cell i j = if i = k ∧ c ≤ j ∧ j < c + row.length then row.getD (j - c) (.t .top) else σ.cell i j
  dirty : ∀ r j, σ'.dirty r j = true ↔ (σ.dirty r j = true ∨ (r = .obj k ∧ c ≤ j ∧ ∃ x, row[j - c]? = some x ∧ x.isOwn = true))
theorem boxUpd {m : Nat} : ∀ (row : List C) (σ : Sg) (k c : Nat), σ.kind k = some (.box m) → c + row.length ≤ m → BoxUpd σ (σ.upds (storeCells' k c row)) k c row
  | [], σ, k, c, hk, hc => ⟨rfl, rfl, rfl, rfl, fun i j => by rw [if_neg (by simp only [List.length_nil]; omega)]; rfl, fun r j => by simp [Sg.upds, storeCells']⟩
  | x :: row, σ, k, c, hk, hc => by
    simp only [List.length_cons] at hc
    have hin : σ.inr k c = true := by simp [Sg.inr, hk, inrK]; omega
    have e : σ.upds (storeCells' k c (x :: row)) = (((σ.upd (.cell k c x)).upds (if x.isOwn then [.dirtC k c] else [])).upds (storeCells' k (c + 1) row)) := by
      simp only [storeCells', Sg.upds, List.foldl_cons, List.foldl_append]
    rw [e]
    have hb : BoxUpd σ ((σ.upd (.cell k c x)).upds (if x.isOwn then [.dirtC k c] else [])) k c [x] := by
      refine ⟨?_, ?_, ?_, ?_, fun i j => ?_, fun r j => ?_⟩
      · split <;> rfl
      · split <;> rfl
      · split <;> rfl
      · split <;> rfl
      · have : ((σ.upd (.cell k c x)).upds (if x.isOwn then [.dirtC k c] else [])).cell i j = (σ.upd (.cell k c x)).cell i j := by split <;> rfl
        rw [this]
        simp only [Sg.upd, Sg.setP, hin, and_true, List.length_singleton]
        by_cases e : i = k ∧ j = c
        · obtain ⟨rfl, rfl⟩ := e
          simp
        · rw [if_neg e, if_neg (by omega)]
      · by_cases ho : x.isOwn = true
        · simp only [if_pos ho, Sg.upds, List.foldl_cons, List.foldl_nil, Sg.upd, Sg.setP_dirty]
          by_cases e : r = .obj k ∧ j = c
          · rw [if_pos e]
            obtain ⟨rfl, rfl⟩ := e
            simp [ho]
          · rw [if_neg e]
            constructor
            · exact .inl
            · rintro (h | ⟨h1, h2, y, h3, _⟩)
              · exact h
              · have := lt_of_getElem? h3
                simp at this
                exact absurd ⟨h1, by omega⟩ e
        · simp only [if_neg ho, Sg.upds, List.foldl_nil, Sg.upd, Sg.setP_dirty]
          constructor
          · exact .inl
          · rintro (h | ⟨h1, h2, y, h3, h4⟩)
            · exact h
            · have := lt_of_getElem? h3
              simp at this
              have : j - c = 0 := by omega
              rw [this] at h3
              simp at h3
              subst h3
              exact absurd h4 ho
    have ih := boxUpd row ((σ.upd (.cell k c x)).upds (if x.isOwn then [.dirtC k c] else [])) k (c + 1) (by rw [hb.kind]; exact hk) (by omega)
    refine ⟨ih.slot.trans hb.slot, ih.isnew.trans hb.isnew, ih.kind.trans hb.kind, ih.mp.trans hb.mp, fun i j => ?_, fun r j => ?_⟩
    · rw [ih.cell, hb.cell]
      simp only [List.length_cons, List.length_singleton]
      by_cases h1 : i = k ∧ c + 1 ≤ j ∧ j < c + 1 + row.length
      · rw [if_pos h1, if_pos (by omega), show j - c = (j - (c + 1)) + 1 by omega]
        rfl
      · rw [if_neg h1]
        by_cases h2 : i = k ∧ c ≤ j ∧ j < c + 1
        · rw [if_pos (by simpa using h2), if_pos (by omega), show j - c = 0 by omega]
          rfl
        · rw [if_neg (by simpa using h2), if_neg (by omega)]
    · rw [ih.dirty, hb.dirty]
      constructor
      · rintro ((h | ⟨h1, h2, y, h3, h4⟩) | ⟨h1, h2, y, h3, h4⟩)
        · exact .inl h
        · have := lt_of_getElem? h3
          simp at this
          exact .inr ⟨h1, h2, y, by rw [show j - c = 0 by omega] at h3 ⊢; simpa using h3, h4⟩
        · exact .inr ⟨h1, by omega, y, by rw [show j - c = (j - (c + 1)) + 1 by omega]; simpa using h3, h4⟩
      · rintro (h | ⟨h1, h2, y, h3, h4⟩)
        · exact .inl (.inl h)
        · by_cases e : j = c
          · subst e
            exact .inl (.inr ⟨h1, h2, y, by simpa using h3, h4⟩)
          · exact .inr ⟨h1, by omega, y, by rw [show j - c = (j - (c + 1)) + 1 by omega] at h3; simpa using h3, h4⟩

theorem Core.storeCells {E : Env} {σ : Sg} {tmps : Array Value} {w : World} {g : Gh} (hc : Core E σ tmps w g) {k m c : Nat} (hk : σ.kind k = some (.box m)) {row : List C} (hcm : c + row.length ≤ m) {vs : Nat → Value}
    (hrow : ∀ j x, row[j]? = some x → CRep w g σ.dirty ⟨.ret, j, []⟩ x (vs j)) (hroots : ∀ x ∈ row, ∀ r ∈ x.roots, σ.ex r) {cs : Array Value} {el : TypeId} (hh : w.heap[(g.bl k).1]? = some (.cells cs el (0, 0)))
    {cs' : Array Value} (hcs : cs' = (cs.toList.take ((g.bl k).2.1 + c) ++ (List.range row.length).map vs ++ cs.toList.drop ((g.bl k).2.1 + c + row.length)).toArray) :
    Core E (σ.upds (storeCells' k c row)) tmps (w.setRow (g.bl k).1 cs') (g.ren (boxRen k c row)) ∧ Move w g (w.setRow (g.bl k).1 cs') (g.ren (boxRen k c row)) := by
  have hu := boxUpd row σ k c hk hcm
  generalize hσ : σ.upds (storeCells' k c row) = σ' at hu ⊢
  obtain ⟨cs0, el0, b1, b2, b3, b4, b5⟩ := hc.objs k _ hk
  rw [hh] at b1
  cases b1
  have hexk : σ.ex (.obj k) := .inr (.inl (by rw [hk]; simp))
  have hm : Mem w (w.setRow (g.bl k).1 cs') g := fun b _ hb => setRow_other w _ b _ (fun e => by
    subst e
    rw [b2] at hb
    rcases hb with h | ⟨a, h⟩ <;> cases h)
  have hnb : ∀ b, g.ow b ≠ .box k → (w.setRow (g.bl k).1 cs').heap[b]? = w.heap[b]? := fun b hb => setRow_other w _ b _ (fun e => hb (e ▸ b2))
  have hsz : cs'.size = cs.size := by
    rw [hcs]
    simp
    omega
  have hget : ∀ i, cs'[i]? = if (g.bl k).2.1 + c ≤ i ∧ i < (g.bl k).2.1 + c + row.length then some (vs (i - ((g.bl k).2.1 + c))) else cs[i]? := by
    intro i
    rw [hcs]
    simp only [List.getElem?_toArray]
    have hl1 : (cs.toList.take ((g.bl k).2.1 + c)).length = (g.bl k).2.1 + c := by simp; omega
    rw [List.append_assoc, List.getElem?_append, hl1]
    by_cases h1 : i < (g.bl k).2.1 + c
    · rw [if_pos h1, if_neg (by omega), List.getElem?_take, if_pos h1]
      simp
    · rw [if_neg h1, List.getElem?_append]
      simp only [List.length_map, List.length_range]
      by_cases h2 : i - ((g.bl k).2.1 + c) < row.length
      · rw [if_pos h2, if_pos (by omega)]
        simp [h2]
      · rw [if_neg h2, if_neg (by omega), List.getElem?_drop]
        simp only [Array.getElem?_toList]
        congr 1
        omega
  have hS : ∀ r j p, σ.ex r → ¬ (boxRen k c row).S ⟨r, j, p⟩ := by
    rintro r j p hr ⟨h1, _⟩
    simp only at h1
    subst h1
    exact hr
  have hexeq : σ'.ex = σ.ex := by
    funext r
    cases r <;> simp [Sg.ex, hu.isnew, hu.kind, hu.mp]
  have hD : ∀ r j p, σ'.dirty r j = false → ¬ (boxRen k c row).D ⟨r, j, p⟩ := by
    rintro r j p hd ⟨h1, h2⟩
    have := (hu.dirty r j).2 (.inr ⟨h1, h2⟩)
    rw [hd] at this
    cases this
  have hDk : ∀ r j p, r ≠ .obj k → ¬ (boxRen k c row).D ⟨r, j, p⟩ := by
    rintro r j p hd ⟨h1, _⟩
    exact hd h1
  have hkeep : Keeps w (w.setRow (g.bl k).1 cs') g (g.ren (boxRen k c row)) σ.dirty σ'.dirty σ.ex := by
    refine ⟨Nat.le_refl _, fun b hb h => ⟨Gh.ren_fz h, hm b hb (.inl h)⟩, fun r j hr hd => ⟨?_, fun p => Gh.ren_hd (hD r j p hd)⟩, fun _ _ => rfl⟩
    cases h : σ.dirty r j with
    | false => rfl
    | true => rw [(hu.dirty r j).2 (.inl h)] at hd; cases hd
  have hnew : ∀ j x, row[j]? = some x → CRep (w.setRow (g.bl k).1 cs') (g.ren (boxRen k c row)) σ'.dirty ⟨.obj k, c + j, []⟩ x (vs j) := by
    intro j x hj
    by_cases ho : x.isOwn = true
    · have h1 := hrow j x hj
      unfold C.isOwn at ho
      split at ho
      · cases h1 with
        | t h1 => exact .t (h1.ren (R := boxRen k c row) (p := ⟨.ret, j, []⟩) hm ⟨rfl, _, hj, rfl⟩)
      · cases ho
    · exact (hrow j x hj).keeps (by simpa using ho) hkeep (hroots x (List.mem_of_getElem? hj))
  refine ⟨Core.step hc hkeep (fun n => .inl ⟨by rw [hu.slot], by rw [hu.isnew], rfl, fun j => Gh.ren_still hm (fun p => hS _ j p (σ.rt_ex n)) (fun p => hDk _ j p (σ.rt_ne_obj n k))⟩) (fun i kd h => ?_) (fun i j => ?_)
    (fun i es h => .inl ⟨by rw [← hu.mp]; exact h, fun _ h' => ⟨Gh.ren_box h', ?_⟩⟩) (fun r hr => by rw [hexeq]; exact hr) (fun b hb => ⟨by rw [(hc.glob b hb).1, Gh.ren_other (hc.glob b hb).1], hnb b (by rw [(hc.glob b hb).1]; intro e; cases e)⟩) (by simp), ?_⟩
  · rw [hu.kind] at h
    by_cases e : i = k
    · subst e
      right
      rw [hk] at h
      cases h
      refine ⟨cs', el, setRow_heap w _ _ _ _ _ hh, Gh.ren_box b2, b3, by rw [hsz]; exact b4, fun j hj => ?_⟩
      show ∃ u, cs'[(g.bl i).2.1 + j]? = some u ∧ _
      rw [hget, hu.cell]
      by_cases h1 : c ≤ j ∧ j < c + row.length
      · rw [if_pos (by omega), if_pos ⟨rfl, h1⟩]
        have hlt : j - c < row.length := by omega
        have := hnew (j - c) row[j - c] (List.getElem?_eq_getElem hlt)
        rw [show c + (j - c) = j by omega] at this
        refine ⟨vs (j - c), by congr 2; omega, ?_⟩
        simpa [List.getD, hlt] using this
      · rw [if_neg (by omega), if_neg (by omega)]
        obtain ⟨u, u1, u2⟩ := b5 j hj
        refine ⟨u, u1, u2.still hkeep (hc.liveC i j) (Gh.ren_still hm (fun p => hS _ j p hexk) fun p hd => ?_)⟩
        obtain ⟨_, h2, x, h3, _⟩ := hd
        simp only at h2 h3
        have := lt_of_getElem? h3
        omega
    · left
      have hexi : σ.ex (.obj i) := .inr (.inl (by rw [h]; simp))
      refine ⟨h, fun j => ⟨by rw [hu.cell, if_neg (by omega)], Gh.ren_still hm (fun p => hS _ j p hexi) (fun p => hDk _ j p (by intro q; cases q; exact e rfl))⟩, fun _ h' => ⟨Gh.ren_box h', hnb _ (by rw [h']; intro q; cases q; exact e rfl)⟩⟩
  · rw [hu.cell, hexeq]
    by_cases h1 : i = k ∧ c ≤ j ∧ j < c + row.length
    · rw [if_pos h1]
      right
      have hlt : j - c < row.length := by omega
      have e : row.getD (j - c) (.t .top) = row[j - c] := by simp [List.getD, hlt]
      rw [e]
      exact hroots _ (List.getElem_mem hlt)
    · rw [if_neg h1]; exact .inl rfl
  · refine setRow_other w _ _ _ fun q => ?_
    obtain ⟨l, ck, m1, _⟩ := hc.maps i es (by rw [← hu.mp]; exact h)
    rw [q, hh] at m1
    cases m1
  · refine ⟨by simp, rfl, fun b hb h => ?_, fun _ _ => rfl, fun b j hb hj h => ⟨Gh.ren_box h, fun cs1 el1 fr hh1 => ?_⟩, ⟨rfl, rfl, rfl⟩, fun k2 c2 p hk2 hz => Gh.ren_hd fun hD => ?_⟩
    · refine ⟨?_, hnb b (by intro q; rw [q] at h; rcases h with h | h <;> cases h)⟩
      rcases h with h | h
      · rw [h, Gh.ren_fz h]
      · rw [h, Gh.ren_other h]
    · by_cases e : b = (g.bl k).1
      · subst e
        rw [b2] at h
        cases h
        rw [hh] at hh1
        cases hh1
        refine ⟨cs', setRow_heap w _ _ _ _ _ hh, hsz, fun i hi => ?_⟩
        rw [b3] at hi
        rw [hget, if_neg (by omega)]
      · exact ⟨cs1, (setRow_other w _ b _ e).trans hh1, rfl, fun _ _ => rfl⟩
    · obtain ⟨e1, _, x, e3, _⟩ := hD
      cases e1
      have := lt_of_getElem? e3
      rw [b3] at hz
      omega
end Vx

namespace Vx
open Go Classical
set_option linter.unusedSimpArgs false
set_option linter.unusedVariables false

section
variable {E : Env} {N : Nat} {o : Oper} {σ : Sg}

theorem Core.newboxPut {tmps : Array Value} {w : World} {g : Gh} (hc : Core E σ tmps w g) {d : Nat} (hd : d < tmps.size) (hn : σ.isnew d = false) (hk : σ.kind (100000 + d) = none) (hm : σ.mp (100000 + d) = none) {cs : Array Value} {el : TypeId} {row : List C}
    (hrow : ∀ j x, row[j]? = some x → ∃ u, cs[j]? = some u ∧ CRep w g σ.dirty ⟨.obj (100000 + d), j, []⟩ x u) (hlen : row.length = cs.size) (hroots : ∀ x ∈ row, ∀ r ∈ x.roots, σ.ex r) :
    ∃ g', Core E ((σ.upd (.box (100000 + d) row)).upd (.slot d (.c (.ptr ⟨.obj (100000 + d), 0, []⟩)))) (tmps.setIfInBounds d (.pointer (some ⟨w.heap.size, 0, none⟩))) (w.alloc (.cells cs el (0, 0))) g' ∧ Move w g (w.alloc (.cells cs el (0, 0))) g' := by
  have hex : ¬ σ.ex (.obj (100000 + d)) := by simp only [Sg.ex]; rw [hk, hm]; simp
  refine ⟨_, (hc.newbox hex hrow hlen hroots).put (by exact hn) (.c (.ptr (fun h => absurd rfl h) (fun _ => PRep.path_nil.2 ⟨100000 + d, rfl, ?_⟩) rfl)) (fun r hr => ?_) rfl (.inl hd), fresh_move (w := w) (ob := .cells cs el (0, 0)) (fun k hk' => ?_) (fun _ _ _ => rfl)⟩
  · simp [Gh.fresh]
  · simp only [SV.roots, C.roots, List.mem_singleton] at hr
    subst hr
    right; left
    simp [Sg.upd]
  · rw [if_neg (by omega)]

theorem ok_alloc (hN : okOper N o = true) {t : TypeId} (ho : o.op = .alloc t) (h : ((astep E.P o).run σ).ok) : OpOK E N o σ ((astep E.P o).run σ).upd := by
  simp only [astep, ho] at h ⊢
  cases hd : o.dst with
  | none => rw [hd] at h; exact h.elim
  | some d =>
    cases hi : tinfo E.P t with
    | none => rw [hd, hi] at h; exact h.elim
    | some i =>
      rw [hd, hi] at h
      simp only [Rd.run] at h ⊢
      cases hk : σ.kind (100000 + d) with
      | some kd => rw [hk] at h; exact h.elim
      | none =>
        cases hm : σ.mp (100000 + d) with
        | some m => rw [hk, hm] at h; exact h.elim
        | none =>
          rw [hk, hm] at h
          simp only at h ⊢
          obtain ⟨⟨hz1, hz2⟩, h2, _⟩ := put_ok h
          obtain ⟨hn, e, hdi⟩ := h2 d hd
          rw [e]
          obtain ⟨inf, z, a1, a2, a3, a4, a5, a6⟩ := tinfo_zero hi hz1 hz2
          intro a w g hc hs hl K Q hK
          have hex : (execOp a.eval o).run E.P w = .ok (.value (.pointer (some ⟨w.heap.size, 0, none⟩))) (w.alloc (.cells z.cells t (0, 0))) := by
            simp [execOp, ho, Instr.alloc, zeroValue, typeInfo, a1, a2, newVar, newRow]
          unfold Oper.wp
          rw [hex, Oper.upon_value, hd]
          have hzr := zero_rel (w := w) (g := g) (d := σ.dirty) hl a3 a4
          obtain ⟨g', hc', hmv⟩ := hc.newboxPut (cs := z.cells) (el := t) (row := i.zero.map C.t) (by rw [hs]; exact dst_lt hN hd) hn hk hm (fun j x hj => by
            obtain ⟨q1, q2⟩ := hzr ⟨.obj (100000 + d), j, []⟩
            have hlt := lt_of_getElem? hj
            have hlt' : j < z.cells.size := by rw [q1]; exact hlt
            exact ⟨_, Array.getElem?_eq_getElem hlt', (q2 j x _ hj (Array.getElem?_eq_getElem hlt')).1⟩) (hzr ⟨.ret, 0, []⟩).1.symm (fun x hx r hr => by
            obtain ⟨y, _, rfl⟩ := List.mem_map.1 hx
            simp [C.roots] at hr)
          exact hK _ _ g' hc' hmv (by simpa [Act.put] using hs) rfl

theorem ok_box (hN : okOper N o = true) {t : TypeId} {x : Operand} (ho : o.op = .box t x) (h : ((astep E.P o).run σ).ok) : OpOK E N o σ ((astep E.P o).run σ).upd := by
  have hopd : okOpd x = true := okOper_opd hN (by rw [ho]; simp [Op.operands])
  simp only [astep, ho] at h ⊢
  cases hd : o.dst with
  | none => rw [hd] at h; exact h.elim
  | some d =>
    cases hi : tinfo E.P t with
    | none => rw [hd, hi] at h; exact h.elim
    | some i =>
      rw [hd, hi] at h
      simp only [Rd.run] at h ⊢
      cases hk : σ.kind (100000 + d) with
      | some kd => rw [hk] at h; exact h.elim
      | none =>
        cases hm : σ.mp (100000 + d) with
        | some m => rw [hk, hm] at h; exact h.elim
        | none =>
          rw [hk, hm] at h
          simp only at h ⊢
          unfold moveS at h ⊢
          obtain ⟨row0, e1, hrow⟩ := rdRow_ok h
          rw [e1] at h ⊢
          obtain ⟨row, us, ht, e2⟩ := moveL_ok h
          rw [e2] at h ⊢
          obtain ⟨hsz, h2, _⟩ := put_ok h
          obtain ⟨hn, e, hdi⟩ := h2 d hd
          rw [e]
          intro a w g hc hs hl K Q hK
          obtain ⟨vs, hcells, hval⟩ := hrow E a w g hc hl hopd
          have hex0 : ¬ σ.ex (.obj (100000 + d)) := by simp only [Sg.ex]; rw [hk, hm]; simp
          obtain ⟨g1, tk, hr⟩ := ht.at_root hc (distinct_left (distinct_left hdi)) hex0 hcells
          have hex : (execOp a.eval o).run E.P w = .ok (.value (.pointer (some ⟨w.heap.size, 0, none⟩))) (w.alloc (.cells (a.eval x).cells t (0, 0))) := by
            simp [execOp, ho, Instr.box, newVar, newRow]
          unfold Oper.wp
          rw [hex, Oper.upon_value, hd]
          obtain ⟨g', hc', hmv⟩ := tk.core.newboxPut (cs := (a.eval x).cells) (el := t) (row := row) (d := d) (by rw [hs]; exact dst_lt hN hd) (by rw [tk.isnew]; exact hn) (by rw [tk.kind]; exact hk) (by rw [tk.mp]; exact hm) (fun j y hj => by
            have hlt := lt_of_getElem? hj
            rw [ht.length] at hlt
            refine ⟨vs j, by rw [hval]; simp [hlt], ?_⟩
            rw [tk.dirty]
            exact hr j y hj) (by rw [hval, ht.length]; simp) (fun y hy r hq => by
            rw [tk.ex]
            obtain ⟨z, hz1, hz2⟩ := ht.roots y hy r hq
            obtain ⟨j, hj⟩ := List.getElem?_of_mem hz1
            exact (hcells j z hj).2.2 r hz2)
          refine hK _ _ g' ?_ (tk.move.trans hmv) (by simpa [Act.put] using hs) rfl
          rw [upds_append, upds_append]
          exact hc'

theorem keys_left {x : SV} {us : List Upd} {ok : Prop} (h : ((Vx.put o x us ok).run σ).ok) : distinct (keysOf us) = true := by
  obtain ⟨_, h2, h3⟩ := put_ok h
  cases hd : o.dst with
  | none => exact (h3 hd).2
  | some d => exact distinct_left (h2 d hd).2.2
/-- An operation that writes and has no result. -/
theorem OpOK.skip (hN : okOper N o = true) {us : List Upd} {ok : Prop} (h : ((Vx.put o undefS us ok).run σ).ok)
    (hx : ∀ (a : Act) w g, Core E σ a.tmps w g → a.tmps.size = N → LIM ≤ g.lim → ∃ w' g', (execOp a.eval o).run E.P w = .ok .skip w' ∧ Core E (σ.upds us) a.tmps w' g' ∧ Move w g w' g' ∧ (σ.upds us).isnew = σ.isnew) :
    OpOK E N o σ ((Vx.put o undefS us ok).run σ).upd := by
  intro a w g hc hs hl K Q hK
  obtain ⟨w', g', he, hc', hm, hn'⟩ := hx a w g hc hs hl
  unfold Oper.wp
  rw [he, Oper.upon_skip]
  obtain ⟨_, h2, h3⟩ := put_ok h
  cases hd : o.dst with
  | none =>
    refine hK _ w' g' ?_ hm hs rfl
    rw [(h3 hd).1]
    exact hc'
  | some d =>
    obtain ⟨hn, e, _⟩ := h2 d hd
    refine hK _ w' g' ?_ hm (by simpa [Act.put] using hs) rfl
    rw [e, upds_append]
    exact (hc'.put (by rw [hn']; exact hn) (.c (.t (.fro .val))) (by simp [SV.roots, C.roots]) rfl (.inl (by rw [hs]; exact dst_lt hN hd)))
theorem boxUpd_isnew {τ : Sg} {k c m : Nat} {row : List C} (hk : τ.kind k = some (.box m)) (hc : c + row.length ≤ m) : (τ.upds (storeCells' k c row)).isnew = τ.isnew := (boxUpd row τ k c hk hc).isnew

theorem run_storeAt {P : Program} {t : TypeId} {i : TI} (h : tinfo P t = some i) {b off : Nat} {v : Value} {w : World} {cs : Array Value} {el : TypeId} (hh : w.heap[b]? = some (.cells cs el (0, 0)))
    (hs : v.cells.size = i.size) (hb : off + v.cells.size ≤ cs.size) (h1 : ∀ u ∈ v.cells, u.oneCell' = true) :
    (Instr.storeAt t (.pointer (some ⟨b, off, none⟩)) v).run P w = .ok () (w.setRow b (cs.toList.take off ++ v.cells.toList ++ cs.toList.drop (off + v.cells.toList.length)).toArray) := by
  have := run_storeCells_at (P := P) b off el v.cells.toList 0 cs w hh (by simpa using hb) (by simpa using h1)
  simp only [Nat.add_zero] at this
  simp [Instr.storeAt, Instr.sureAddr, storeVar, run_sizeOf h, hs, this]

theorem ok_store_box (hN : okOper N o = true) {t : TypeId} {p v : Operand} (ho : o.op = .store t p v) {i : TI} (hi : tinfo E.P t = some i) {k c m : Nat} {us : List Upd}
    (hp : ∀ (a : Act) w g, Core E σ a.tmps w g → LIM ≤ g.lim → PRep g ⟨.obj k, c, []⟩ (a.eval p)) (hk : σ.kind k = some (.box m))
    (h : ((moveS v fun row us => Vx.put o undefS (us ++ storeCells' k c row) (row.length = i.size ∧ c + i.size ≤ m ∧ row.all C.one = true)).run σ).ok)
    (hus : us = ((moveS v fun row us => Vx.put o undefS (us ++ storeCells' k c row) (row.length = i.size ∧ c + i.size ≤ m ∧ row.all C.one = true)).run σ).upd) : OpOK E N o σ us := by
  have hopd : okOpd v = true := okOper_opd hN (by rw [ho]; simp [Op.operands])
  subst hus
  unfold moveS at h ⊢
  obtain ⟨row0, e1, hrow⟩ := rdRow_ok h
  rw [e1] at h ⊢
  obtain ⟨row, us, ht, e2⟩ := moveL_ok h
  rw [e2] at h ⊢
  obtain ⟨⟨hs1, hs2, hs3⟩, h2, h3⟩ := put_ok h
  refine OpOK.skip hN h ?_
  intro a w g hc hs hl
  obtain ⟨vs, hcells, hval⟩ := hrow E a w g hc hl hopd
  obtain ⟨g1, tk, hr⟩ := ht.at_root hc (distinct_left (keys_left h)) (r := .ret) (fun h => h) hcells
  obtain ⟨k', ek, hpv⟩ := PRep.path_nil.1 (hp a w g hc hl)
  cases ek
  have hk1 : (σ.upds us).kind k = some (.box m) := by rw [tk.kind]; exact hk
  obtain ⟨cs, el, b1, b2, b3, b4, b5⟩ := tk.core.objs k _ hk1
  have hexk : σ.ex (.obj k) := .inr (.inl (by rw [hk]; simp))
  have hbl : g1.bl k = g.bl k := tk.keeps.bl k hexk
  have hlen : (a.eval v).cells.toList = (List.range row.length).map vs := by rw [hval, ht.length]
  have hlen2 : (a.eval v).cells.size = row.length := by rw [hval, ht.length]; simp
  have hst := run_storeAt (P := E.P) hi (b := (g1.bl k).1) (off := (g1.bl k).2.1 + c) (v := a.eval v) b1 (by rw [hlen2]; exact hs1) (by rw [hlen2]; omega) (fun u hu => by
    have hu' : u ∈ (List.range row.length).map vs := by rw [← hlen]; simpa using hu
    obtain ⟨j, hj, rfl⟩ := List.mem_map.1 hu'
    have hj' : j < row.length := by simpa using hj
    refine (hr j row[j] (List.getElem?_eq_getElem hj')).one ?_
    simp only [List.all_eq_true] at hs3
    exact hs3 _ (List.getElem_mem hj'))
  have hex : (execOp a.eval o).run E.P w = .ok .skip (w.setRow (g1.bl k).1 (cs.toList.take ((g1.bl k).2.1 + c) ++ (List.range row.length).map vs ++ cs.toList.drop ((g1.bl k).2.1 + c + row.length)).toArray) := by
    rw [hlen] at hst
    simp only [List.length_map, List.length_range] at hst
    simp only [execOp, ho, hpv, ← hbl]
    simp only [Sem.run_bind, hst]
    rfl
  obtain ⟨hc2, hmv⟩ := tk.core.storeCells (k := k) (c := c) (row := row) hk1 (by rw [hs1]; exact hs2) (fun j x hj => by rw [tk.dirty]; exact hr j x hj) (fun y hy r hq => by
    rw [tk.ex]
    obtain ⟨z, hz1, hz2⟩ := ht.roots y hy r hq
    obtain ⟨j, hj⟩ := List.getElem?_of_mem hz1
    exact (hcells j z hj).2.2 r hz2) b1 rfl
  refine ⟨_, _, hex, ?_, tk.move.trans hmv, by rw [upds_append, boxUpd_isnew hk1 (by rw [hs1]; exact hs2), tk.isnew]⟩
  rw [upds_append]
  exact hc2
end
end Vx

namespace Vx
open Go Classical
set_option linter.unusedSimpArgs false
set_option linter.unusedVariables false

/-! ## What a state says at a location -/
def SameAt (σ τ : Sg) : Loc → Prop
  | .slot n => σ.slot n = τ.slot n ∧ σ.isnew n = τ.isnew n ∧ (∀ c, σ.dirty (.slot n) c = τ.dirty (.slot n) c) ∧ ∀ c, σ.dirty (.new n) c = τ.dirty (.new n) c
  | .cell k c => σ.cell k c = τ.cell k c ∧ σ.dirty (.obj k) c = τ.dirty (.obj k) c
  | .kind k => σ.kind k = τ.kind k
  | .mp k => σ.mp k = τ.mp k
theorem SameAt.refl (σ : Sg) (l : Loc) : SameAt σ σ l := by cases l <;> simp [SameAt]
theorem SameAt.symm {σ τ : Sg} {l : Loc} (h : SameAt σ τ l) : SameAt τ σ l := by
  cases l with
  | slot n => exact ⟨h.1.symm, h.2.1.symm, fun c => (h.2.2.1 c).symm, fun c => (h.2.2.2 c).symm⟩
  | cell k c => exact ⟨h.1.symm, h.2.symm⟩
  | kind k => exact Eq.symm h
  | mp k => exact Eq.symm h
theorem SameAt.trans {σ τ υ : Sg} {l : Loc} (h : SameAt σ τ l) (k : SameAt τ υ l) : SameAt σ υ l := by
  cases l with
  | slot n => exact ⟨h.1.trans k.1, h.2.1.trans k.2.1, fun c => (h.2.2.1 c).trans (k.2.2.1 c), fun c => (h.2.2.2 c).trans (k.2.2.2 c)⟩
  | cell i c => exact ⟨h.1.trans k.1, h.2.trans k.2⟩
  | kind i => exact Eq.trans h k
  | mp i => exact Eq.trans h k
theorem SameAt.ext {σ τ : Sg} (h : ∀ l, SameAt σ τ l) (hr : ∀ c, σ.dirty .ret c = τ.dirty .ret c) : σ = τ := by
  cases σ; cases τ
  congr 1
  · funext n; exact (h (.slot n)).1
  · funext n; exact (h (.slot n)).2.1
  · funext k c; exact (h (.cell k c)).1
  · funext k; exact h (.kind k)
  · funext k; exact h (.mp k)
  · funext r c
    cases r with
    | slot n => exact (h (.slot n)).2.2.1 c
    | new n => exact (h (.slot n)).2.2.2 c
    | obj k => exact (h (.cell k c)).2
    | ret => exact hr c

theorem Rd.same {α : Type} : ∀ (f : Rd α) {σ τ : Sg}, (∀ l ∈ f.log σ, SameAt σ τ l) → f.run τ = f.run σ ∧ f.log τ = f.log σ
  | .ret a, σ, τ, h => ⟨rfl, rfl⟩
  | .slot n f, σ, τ, h => by
    have h0 := h (.slot n) (by simp [Rd.log])
    obtain ⟨h1, h2, h3, h4⟩ := h0
    have hrt : τ.rt n = σ.rt n := by simp [Sg.rt, h2]
    have hd : τ.dirty (τ.rt n) = σ.dirty (σ.rt n) := by
      rw [hrt]
      funext c
      rcases σ.rt_slot n with e | e <;> rw [e]
      · exact (h3 c).symm
      · exact (h4 c).symm
    obtain ⟨e1, e2⟩ := Rd.same (f (σ.slot n) (σ.isnew n) (σ.dirty (σ.rt n))) (σ := σ) (τ := τ) fun l hl => h l (by simp [Rd.log, hl])
    simp only [Rd.run, Rd.log, ← h1, ← h2, hd, e1, e2, and_self]
  | .cell k c f, σ, τ, h => by
    obtain ⟨h1, h2⟩ := h (.cell k c) (by simp [Rd.log])
    obtain ⟨e1, e2⟩ := Rd.same (f (σ.cell k c) (σ.dirty (.obj k) c)) (σ := σ) (τ := τ) fun l hl => h l (by simp [Rd.log, hl])
    simp only [Rd.run, Rd.log, ← h1, ← h2, e1, e2, and_self]
  | .kind k f, σ, τ, h => by
    have h1 : σ.kind k = τ.kind k := h (.kind k) (by simp [Rd.log])
    obtain ⟨e1, e2⟩ := Rd.same (f (σ.kind k)) (σ := σ) (τ := τ) fun l hl => h l (by simp [Rd.log, hl])
    simp only [Rd.run, Rd.log, ← h1, e1, e2, and_self]
  | .mp k f, σ, τ, h => by
    have h1 : σ.mp k = τ.mp k := h (.mp k) (by simp [Rd.log])
    obtain ⟨e1, e2⟩ := Rd.same (f (σ.mp k)) (σ := σ) (τ := τ) fun l hl => h l (by simp [Rd.log, hl])
    simp only [Rd.run, Rd.log, ← h1, e1, e2, and_self]

/-! ## What an update does to the locations -/
def Upd.wr (u : Upd) (l : Loc) : Prop := ∃ w ∈ u.locs, w.covers l = true
theorem covers_self (l : Loc) : l.covers l = true := by simp [Loc.covers]
theorem setP_frame {σ : Sg} {r : Root} {c : Nat} {x : C} {l : Loc} (h : ∀ w ∈ rootLoc r c, w.covers l = false) : SameAt (σ.setP r c x) σ l := by
  cases r with
  | slot n =>
    cases l with
    | slot m =>
      have := h (.slot n) (by simp [rootLoc])
      have hne : m ≠ n := by rintro rfl; simp [covers_self] at this
      exact ⟨by simp [Sg.setP, hne], rfl, fun _ => rfl, fun _ => rfl⟩
    | cell k c => exact ⟨rfl, rfl⟩
    | kind k => rfl
    | mp k => rfl
  | new n =>
    cases l with
    | slot m =>
      have := h (.slot n) (by simp [rootLoc])
      have hne : m ≠ n := by rintro rfl; simp [covers_self] at this
      exact ⟨by simp [Sg.setP, hne], rfl, fun _ => rfl, fun _ => rfl⟩
    | cell k c => exact ⟨rfl, rfl⟩
    | kind k => rfl
    | mp k => rfl
  | obj k =>
    cases l with
    | slot m => exact ⟨rfl, rfl, fun _ => rfl, fun _ => rfl⟩
    | cell i j =>
      have := h (.cell k c) (by simp [rootLoc])
      have hne : ¬ (i = k ∧ j = c) := by rintro ⟨rfl, rfl⟩; simp [covers_self] at this
      refine ⟨?_, rfl⟩
      simp only [Sg.setP]
      rw [if_neg (fun q => hne ⟨q.1, q.2.1⟩)]
    | kind k => rfl
    | mp k => rfl
  | ret => exact SameAt.refl _ _
theorem setP_dep {σ τ : Sg} {r : Root} {c : Nat} {x : C} (h : ∀ l, ((∃ w ∈ rootLoc r c, w.covers l = true) ∨ l ∈ rootDep r) → SameAt σ τ l) : ∀ l, (∃ w ∈ rootLoc r c, w.covers l = true) → SameAt (σ.setP r c x) (τ.setP r c x) l := by
  intro l hl
  have h0 := h l (.inl hl)
  obtain ⟨w, hw, hc⟩ := hl
  cases r with
  | slot n =>
    simp only [rootLoc, List.mem_singleton] at hw
    subst hw
    have : l = .slot n := by
      cases l <;> simp [Loc.covers] at hc
      rw [hc]
    subst this
    obtain ⟨h1, h2, h3, h4⟩ := h0
    exact ⟨by simp [Sg.setP, h1], h2, h3, h4⟩
  | new n =>
    simp only [rootLoc, List.mem_singleton] at hw
    subst hw
    have : l = .slot n := by
      cases l <;> simp [Loc.covers] at hc
      rw [hc]
    subst this
    obtain ⟨h1, h2, h3, h4⟩ := h0
    exact ⟨by simp [Sg.setP, h1], h2, h3, h4⟩
  | obj k =>
    simp only [rootLoc, List.mem_singleton] at hw
    subst hw
    have : l = .cell k c := by
      cases l <;> simp [Loc.covers] at hc
      rw [hc.1, hc.2]
    subst this
    obtain ⟨h1, h2⟩ := h0
    have hk : σ.kind k = τ.kind k := h (.kind k) (.inr (by simp [rootDep]))
    refine ⟨?_, h2⟩
    simp [Sg.setP, Sg.inr, hk, h1]
  | ret => simp [rootLoc] at hw
theorem upd_frame {σ : Sg} {u : Upd} {l : Loc} (h : ¬ u.wr l) : SameAt (σ.upd u) σ l := by
  have h' : ∀ w ∈ u.locs, w.covers l = false := by
    intro w hw
    cases hc : w.covers l with
    | false => rfl
    | true => exact absurd ⟨w, hw, hc⟩ h
  cases u with
  | slot n x =>
    have := h' (.slot n) (by simp [Upd.locs])
    cases l with
    | slot m =>
      have hne : m ≠ n := by rintro rfl; simp [covers_self] at this
      exact ⟨by simp [Sg.upd, hne], by simp [Sg.upd, hne], fun _ => rfl, fun _ => rfl⟩
    | cell k c => exact ⟨rfl, rfl⟩
    | kind k => rfl
    | mp k => rfl
  | hole r c => exact setP_frame h'
  | set r c t => exact setP_frame h'
  | dirtS n c =>
    have := h' (.slot n) (by simp [Upd.locs])
    cases l with
    | slot m =>
      have hne : m ≠ n := by rintro rfl; simp [covers_self] at this
      have e : ∀ c', ¬ (Root.slot m = σ.rt n ∧ c' = c) := by
        rintro c' ⟨e, _⟩
        rcases σ.rt_slot n with q | q <;> rw [q] at e <;> cases e
        exact hne rfl
      have e2 : ∀ c', ¬ (Root.new m = σ.rt n ∧ c' = c) := by
        rintro c' ⟨e, _⟩
        rcases σ.rt_slot n with q | q <;> rw [q] at e <;> cases e
        exact hne rfl
      exact ⟨rfl, rfl, fun c' => by simp only [Sg.upd]; rw [if_neg (e c')], fun c' => by simp only [Sg.upd]; rw [if_neg (e2 c')]⟩
    | cell k j =>
      refine ⟨rfl, ?_⟩
      simp only [Sg.upd]
      rw [if_neg (fun q => σ.rt_ne_obj n k q.1.symm)]
    | kind k => rfl
    | mp k => rfl
  | cell k c x => exact setP_frame (r := .obj k) (c := c) h'
  | dirtC k c =>
    have := h' (.cell k c) (by simp [Upd.locs])
    cases l with
    | slot m => exact ⟨rfl, rfl, fun c' => by simp [Sg.upd], fun c' => by simp [Sg.upd]⟩
    | cell i j =>
      have hne : ¬ (i = k ∧ j = c) := by rintro ⟨rfl, rfl⟩; simp [covers_self] at this
      refine ⟨rfl, ?_⟩
      simp only [Sg.upd]
      rw [if_neg (by rintro ⟨e1, e2⟩; cases e1; exact hne ⟨rfl, e2⟩)]
    | kind k => rfl
    | mp k => rfl
  | box k row =>
    have := h' (.kind k) (by simp [Upd.locs])
    cases l with
    | slot m => exact ⟨rfl, rfl, fun _ => rfl, fun _ => rfl⟩
    | cell i j =>
      have hne : i ≠ k := by rintro rfl; simp [Loc.covers] at this
      exact ⟨by simp [Sg.upd, hne], rfl⟩
    | kind i =>
      have hne : i ≠ k := by rintro rfl; simp [covers_self] at this
      simp [SameAt, Sg.upd, hne]
    | mp k => rfl
  | mp k es =>
    have := h' (.mp k) (by simp [Upd.locs])
    cases l with
    | slot m => exact ⟨rfl, rfl, fun _ => rfl, fun _ => rfl⟩
    | cell i j => exact ⟨rfl, rfl⟩
    | kind i => rfl
    | mp i =>
      have hne : i ≠ k := by rintro rfl; simp [covers_self] at this
      simp [SameAt, Sg.upd, hne]
theorem upd_dep {σ τ : Sg} {u : Upd} (h : ∀ l, (u.wr l ∨ l ∈ u.deps) → SameAt σ τ l) : ∀ l, u.wr l → SameAt (σ.upd u) (τ.upd u) l := by
  intro l hl
  have h0 := h l (.inl hl)
  cases u with
  | slot n x =>
    obtain ⟨w, hw, hc⟩ := hl
    simp only [Upd.locs, List.mem_singleton] at hw
    subst hw
    have : l = .slot n := by
      cases l <;> simp [Loc.covers] at hc
      rw [hc]
    subst this
    obtain ⟨h1, h2, h3, h4⟩ := h0
    exact ⟨by simp [Sg.upd], by simp [Sg.upd], h3, h4⟩
  | hole r c => exact setP_dep h l hl
  | set r c t => exact setP_dep h l hl
  | dirtS n c =>
    obtain ⟨w, hw, hc⟩ := hl
    simp only [Upd.locs, List.mem_singleton] at hw
    subst hw
    have : l = .slot n := by
      cases l <;> simp [Loc.covers] at hc
      rw [hc]
    subst this
    obtain ⟨h1, h2, h3, h4⟩ := h0
    have hrt : τ.rt n = σ.rt n := by simp [Sg.rt, h2]
    exact ⟨h1, h2, fun c' => by simp only [Sg.upd, hrt, h3], fun c' => by simp only [Sg.upd, hrt, h4]⟩
  | cell k c x => exact setP_dep (r := .obj k) (c := c) (x := x) (fun l hl => h l (hl.imp id (by simp [rootDep, Upd.deps]))) l hl
  | dirtC k c =>
    obtain ⟨w, hw, hc⟩ := hl
    simp only [Upd.locs, List.mem_singleton] at hw
    subst hw
    have : l = .cell k c := by
      cases l <;> simp [Loc.covers] at hc
      rw [hc.1, hc.2]
    subst this
    obtain ⟨h1, h2⟩ := h0
    exact ⟨h1, by simp only [Sg.upd, h2]⟩
  | box k row =>
    obtain ⟨w, hw, hc⟩ := hl
    simp only [Upd.locs, List.mem_singleton] at hw
    subst hw
    cases l with
    | slot m => simp [Loc.covers] at hc
    | cell i j =>
      have : i = k := by simp [Loc.covers] at hc; exact hc.symm
      subst this
      exact ⟨by simp [Sg.upd], h0.2⟩
    | kind i =>
      have : i = k := by simp [Loc.covers] at hc; exact hc.symm
      subst this
      simp [SameAt, Sg.upd]
    | mp i => simp [Loc.covers] at hc
  | mp k es =>
    obtain ⟨w, hw, hc⟩ := hl
    simp only [Upd.locs, List.mem_singleton] at hw
    subst hw
    have : l = .mp k := by
      cases l <;> simp [Loc.covers] at hc
      rw [hc]
    subst this
    simp [SameAt, Sg.upd]
theorem upd_ret (σ : Sg) (u : Upd) (c : Nat) : (σ.upd u).dirty .ret c = σ.dirty .ret c := by
  cases u with
  | hole r c' => simp [Sg.upd, Sg.setP_dirty]
  | set r c' t => simp [Sg.upd, Sg.setP_dirty]
  | cell k c' x => simp [Sg.upd, Sg.setP_dirty]
  | dirtS n c' =>
    simp only [Sg.upd]
    rw [if_neg]
    rintro ⟨e, _⟩
    rcases σ.rt_slot n with q | q <;> rw [q] at e <;> cases e
  | dirtC k c' => simp [Sg.upd]
  | _ => rfl

def Wr (us : List Upd) (l : Loc) : Prop := ∃ w ∈ wlocs us, w.covers l = true
theorem mem_wlocs {us : List Upd} {w : Loc} : w ∈ wlocs us ↔ ∃ u ∈ us, w ∈ u.locs := by
  induction us <;> simp_all [wlocs]
theorem mem_dlocs {us : List Upd} {w : Loc} : w ∈ dlocs us ↔ ∃ u ∈ us, w ∈ u.deps := by
  induction us <;> simp_all [dlocs]
theorem wr_cons {u : Upd} {us : List Upd} {l : Loc} : Wr (u :: us) l ↔ u.wr l ∨ Wr us l := by
  simp only [Wr, wlocs, List.mem_append]
  constructor
  · rintro ⟨w, h | h, hc⟩
    · exact .inl ⟨w, h, hc⟩
    · exact .inr ⟨w, h, hc⟩
  · rintro (⟨w, h, hc⟩ | ⟨w, h, hc⟩)
    · exact ⟨w, .inl h, hc⟩
    · exact ⟨w, .inr h, hc⟩
theorem upds_cons (σ : Sg) (u : Upd) (us : List Upd) : σ.upds (u :: us) = (σ.upd u).upds us := rfl
theorem upds_frame : ∀ {us : List Upd} {σ : Sg} {l : Loc}, ¬ Wr us l → SameAt (σ.upds us) σ l
  | [], σ, l, h => SameAt.refl _ _
  | u :: us, σ, l, h => by
    rw [wr_cons] at h
    rw [upds_cons]
    exact (upds_frame (fun q => h (.inr q))).trans (upd_frame fun q => h (.inl q))
theorem upds_dep {X : Loc → Prop} : ∀ {us : List Upd} {σ τ : Sg}, (∀ l, Wr us l → X l) → (∀ l ∈ dlocs us, X l) → (∀ l, X l → SameAt σ τ l) → ∀ l, X l → SameAt (σ.upds us) (τ.upds us) l
  | [], σ, τ, h1, h2, h, l, hl => h l hl
  | u :: us, σ, τ, h1, h2, h, l, hl => by
    rw [upds_cons, upds_cons]
    refine upds_dep (fun l hl => h1 l (wr_cons.2 (.inr hl))) (fun l hl => h2 l (by simp [dlocs, hl])) (fun l hl => ?_) l hl
    by_cases hw : u.wr l
    · exact upd_dep (fun l hl => h l (hl.elim (fun q => h1 l (wr_cons.2 (.inl q))) (fun q => h2 l (by simp [dlocs, q])))) l hw
    · exact ((upd_frame hw).trans (h l hl)).trans (upd_frame hw).symm
theorem upds_ret : ∀ (us : List Upd) (σ : Sg) (c : Nat), (σ.upds us).dirty .ret c = σ.dirty .ret c
  | [], σ, c => rfl
  | u :: us, σ, c => by rw [upds_cons, upds_ret us, upd_ret]
theorem upds_comm {us vs : List Upd} (σ : Sg) (h1 : ∀ l, Wr us l → ¬ Wr vs l) (h2 : ∀ l ∈ dlocs us, ¬ Wr vs l) (h3 : ∀ l ∈ dlocs vs, ¬ Wr us l) : (σ.upds us).upds vs = (σ.upds vs).upds us := by
  refine SameAt.ext (fun l => ?_) fun c => by rw [upds_ret, upds_ret, upds_ret, upds_ret]
  by_cases hu : Wr us l
  · refine (upds_frame (h1 l hu)).trans ?_
    exact upds_dep (X := fun l => Wr us l ∨ l ∈ dlocs us) (fun l h => .inl h) (fun l h => .inr h) (fun l h => (upds_frame (h.elim (h1 l) (h2 l))).symm) l (.inl hu)
  · by_cases hv : Wr vs l
    · refine SameAt.trans ?_ (upds_frame hu).symm
      exact upds_dep (X := fun l => Wr vs l ∨ l ∈ dlocs vs) (fun l h => .inl h) (fun l h => .inr h) (fun l h => upds_frame (h.elim (fun q r => h1 l r q) (h3 l))) l (.inl hv)
    · exact ((upds_frame hv).trans (upds_frame hu)).trans ((upds_frame hu).trans (upds_frame hv)).symm

theorem meets_false {a b : List Loc} (h : meets a b = false) : ∀ w ∈ a, ∀ l ∈ b, w.covers l = false := by
  intro w hw l hl
  simp only [meets, List.any_eq_false] at h
  have := h w hw
  simp only [Bool.not_eq_true, List.any_eq_false] at this
  simpa using this l hl
theorem meets_wr {us : List Upd} {b : List Loc} (h : meets (wlocs us) b = false) : ∀ l ∈ b, ¬ Wr us l := by
  rintro l hl ⟨w, hw, hc⟩
  rw [meets_false h w hw l hl] at hc
  cases hc
theorem covers_two {w w' l : Loc} (h : w.covers l = true) (h' : w'.covers l = true) : w.covers w' = true ∨ w'.covers w = true := by
  cases w <;> cases w' <;> cases l <;> simp_all [Loc.covers]
theorem meets_wrs {us vs : List Upd} (h : meets (wlocs us) (wlocs vs) = false) (h' : meets (wlocs vs) (wlocs us) = false) : ∀ l, Wr us l → ¬ Wr vs l := by
  rintro l ⟨w, hw, hc⟩ ⟨w', hw', hc'⟩
  rcases covers_two hc hc' with q | q
  · rw [meets_false h w hw w' hw'] at q; cases q
  · rw [meets_false h' w' hw' w hw] at q; cases q
end Vx

namespace Vx
open Go Classical
set_option linter.unusedSimpArgs false
set_option linter.unusedVariables false

/-! ## The list state and the semantic one -/
theorem lk_seta {α : Type} (n m : Nat) (x : α) : ∀ l : List (Nat × α), lk m (seta n x l) = if m = n then some x else lk m l
  | [] => by simp [seta, lk]
  | (k, y) :: l => by
    simp only [seta]
    by_cases h : n = k
    · subst h
      simp only [if_true, lk]
      split <;> simp_all
    · rw [if_neg h]
      simp only [lk, lk_seta n m x l]
      by_cases h2 : m = k
      · subst h2
        simp [h, Ne.symm h]
      · simp [h2]
theorem St.setP_sg (s : St) (r : Root) (c : Nat) (x : C) : (s.setP r c x).sg = s.sg.setP r c x := by
  cases r with
  | slot n =>
    simp only [St.setP, St.sg, Sg.setP]
    congr 1
    funext m
    simp only [St.slot, lk_seta]
    split <;> simp_all
  | new n =>
    simp only [St.setP, St.sg, Sg.setP]
    congr 1
    funext m
    simp only [St.slot, lk_seta]
    split <;> simp_all
  | obj k =>
    simp only [St.setP]
    cases h : lk k s.ob with
    | some row =>
      simp only [St.sg, Sg.setP, Sg.inr]
      congr 1
      · funext i j
        simp only [St.cell, lk_seta, St.kind, h, inrK]
        by_cases e : i = k
        · subst e
          simp only [if_true, true_and, decide_eq_true_eq]
          by_cases e2 : j = c
          · subst e2
            by_cases e3 : j < row.length
            · simp [e3, List.getD]
            · simp [e3, List.getD, h]
          · simp [e2, List.getD, h, List.getElem?_set_ne (Ne.symm e2)]
        · simp [e]
      · funext i
        simp only [St.kind, lk_seta]
        by_cases e : i = k
        · subst e; simp [h]
        · simp [e]
    | none =>
      cases hv : lk k s.vi with
      | none =>
        simp only [Option.isSome_none, Bool.false_eq_true, and_false, if_false]
        simp only [St.sg, Sg.setP, Sg.inr]
        congr 1
        funext i j
        simp [St.kind, h, hv, inrK]
      | some y =>
        by_cases hc : c = 0
        · subst hc
          simp only [Option.isSome_some, and_self, if_true]
          simp only [St.sg, Sg.setP, Sg.inr]
          congr 1
          · funext i j
            simp only [St.cell, lk_seta, St.kind, h, hv, inrK]
            by_cases e : i = k
            · subst e
              simp only [if_true, true_and, h, hv]
              by_cases e2 : j = 0 <;> simp [e2]
            · simp [e]
          · funext i
            simp only [St.kind, lk_seta]
            by_cases e : i = k
            · subst e; simp [h, hv]
            · simp [e]
        · simp only [hc, false_and, if_false]
          simp only [St.sg, Sg.setP, Sg.inr]
          congr 1
          funext i j
          simp [St.kind, h, hv, inrK, hc]
  | ret => rfl
theorem St.upd_sg (s : St) (u : Upd) : (s.upd u).sg = s.sg.upd u := by
  cases u with
  | slot n x =>
    simp only [St.upd, St.sg, Sg.upd]
    congr 1
    · funext m
      simp only [St.slot, lk_seta]
      split <;> simp_all
    · funext m
      simp only [St.isnew, List.contains_cons]
      by_cases e : m = n <;> simp [e]
  | hole r c => exact St.setP_sg s r c _
  | set r c t => exact St.setP_sg s r c _
  | cell k c x => exact St.setP_sg s (.obj k) c x
  | dirtS n c =>
    simp only [St.upd, St.sg, Sg.upd]
    congr 1
    funext r j
    show ((Vx.rt n (s.isnew n), c) :: s.di).contains (r, j) = if r = s.sg.rt n ∧ j = c then true else s.di.contains (r, j)
    have hrt : s.sg.rt n = Vx.rt n (s.isnew n) := rfl
    by_cases e : r = Vx.rt n (s.isnew n) ∧ j = c
    · obtain ⟨rfl, rfl⟩ := e; simp [hrt]
    · rw [if_neg (by rw [hrt]; exact e), List.contains_cons]
      have : ((r, j) == (Vx.rt n (s.isnew n), c)) = false := by
        rw [beq_eq_false_iff_ne]
        intro q; cases q; exact e ⟨rfl, rfl⟩
      rw [this]; simp
  | dirtC k c =>
    simp only [St.upd, St.sg, Sg.upd]
    congr 1
    funext r j
    simp only [St.dirty]
    by_cases e : r = .obj k ∧ j = c
    · obtain ⟨rfl, rfl⟩ := e; simp
    · rw [if_neg e, List.contains_cons]
      have : ((r, j) == (Root.obj k, c)) = false := by
        rw [beq_eq_false_iff_ne]
        intro q; cases q; exact e ⟨rfl, rfl⟩
      rw [this]; simp
  | box k row =>
    simp only [St.upd, St.sg, Sg.upd]
    congr 1
    · funext i j
      simp only [St.cell, lk_seta]
      by_cases e : i = k <;> simp [e]
    · funext i
      simp only [St.kind, lk_seta]
      by_cases e : i = k <;> simp [e]
  | mp k es =>
    simp only [St.upd, St.sg, Sg.upd]
    congr 1
    funext i
    simp only [St.map, lk_seta]
theorem St.upds_sg : ∀ (us : List Upd) (s : St), (s.upds us).sg = s.sg.upds us
  | [], s => rfl
  | u :: us, s => by rw [St.upds, St.upds_sg us, St.upd_sg, upds_cons]
theorem Rd.go_iff {α : Type} (s : St) : ∀ (f : Rd α) (lg : List Loc) (K : α → List Loc → Prop), f.go s lg K ↔ K (f.run s.sg) ((f.log s.sg).reverse ++ lg)
  | .ret a, lg, K => by simp [Rd.go, Rd.run, Rd.log]
  | .slot n f, lg, K => by
    simp only [Rd.go]
    rw [Rd.go_iff s]
    simp [Rd.run, Rd.log, St.sg, Sg.rt]
  | .cell k c f, lg, K => by
    simp only [Rd.go]
    rw [Rd.go_iff s]
    simp [Rd.run, Rd.log, St.sg]
  | .kind k f, lg, K => by
    simp only [Rd.go]
    rw [Rd.go_iff s]
    simp [Rd.run, Rd.log, St.sg]
  | .mp k f, lg, K => by
    simp only [Rd.go]
    rw [Rd.go_iff s]
    simp [Rd.run, Rd.log, St.sg]

/-! ## One operation, all its kinds -/
def ostep1 (P : Program) (R : Rel) (o : Oper) (an : Ans) : Rd Eff :=
  match o.op with
  | .pick (.tmp c) a b => .slot c fun sv _ _ => match sv with
    | .c (.t (.bool t)) => rdS (if t then a else b) fun sv => put o sv [] (sv.row.isSome = true)
    | _ => fail
  | .call { callee := .value (.func g), args, .. } => stepCall R o g args.toList an
  | .call { callee := .value (.tmp n), args, .. } => stepCallV R o n args.toList an
  | _ => astep P o
def ostep (P : Program) (R : Rel) (ops : List Oper) (o : Oper) (an : Ans) : Rd Eff :=
  match o.guard with
  | none => ostep1 P R o an
  | some (j, want) => match (ops[j]?).bind (·.dst) with
    | some d => .slot d fun sv _ _ => match sv with
      | .c (.t (.bool b)) => if b = want then ostep1 P R o an else skipOp o
      | .c (.t (.val (.tuple _))) => skipOp o
      | _ => fail
    | none => fail

/-- A step of the walk is a step of the semantic state. -/
def Stepped (P : Program) (R : Rel) (f : Ans → Rd Eff) (s : St) (lg : List Loc) (l : List (List Loc × List Loc)) (K : Kont) : Prop :=
  ∃ an, ((f an).run s.sg).ok ∧ K (s.upds ((f an).run s.sg).upd) ((dlocs ((f an).run s.sg).upd ++ ((f an).log s.sg).reverse ++ lg, wlocs ((f an).run s.sg).upd) :: l)
theorem go_fin {s : St} {f : Rd Eff} {lg : List Loc} {l : List (List Loc × List Loc)} {K : Kont} (h : f.go s lg (fin s l K)) : (f.run s.sg).ok ∧ K (s.upds (f.run s.sg).upd) ((dlocs (f.run s.sg).upd ++ (f.log s.sg).reverse ++ lg, wlocs (f.run s.sg).upd) :: l) := by
  rw [Rd.go_iff] at h
  obtain ⟨h1, h2⟩ := h
  exact ⟨h1, by rw [List.append_assoc]; exact h2⟩
theorem aop1_step {P : Program} {R : Rel} {o : Oper} {s : St} {lg : List Loc} {l : List (List Loc × List Loc)} {K : Kont} (h : aop1 P R o s lg l K) : Stepped P R (ostep1 P R o) s lg l K := by
  unfold aop1 at h
  split at h
  · rename_i c a b ho
    split at h
    · rename_i t hs
      have e : ostep1 P R o default = .slot c fun sv _ _ => match sv with
          | .c (.t (.bool t)) => rdS (if t then a else b) fun sv => put o sv [] (sv.row.isSome = true)
          | _ => fail := by simp only [ostep1, ho]
      refine ⟨default, ?_⟩
      rw [e]
      have hs' : s.sg.slot c = .c (.t (.bool t)) := hs
      simp only [Rd.run, Rd.log, hs']
      cases t with
      | true => have := go_fin (h.1 rfl); simpa using this
      | false => have := go_fin (h.2 rfl); simpa using this
    · exact h.elim
  · rename_i g args _ ho
    obtain ⟨an, h⟩ := h
    refine ⟨an, ?_⟩
    have e : ostep1 P R o an = stepCall R o g args.toList an := by simp only [ostep1, ho]
    rw [e]
    exact go_fin h
  · rename_i n args _ ho
    obtain ⟨an, h⟩ := h
    refine ⟨an, ?_⟩
    have e : ostep1 P R o an = stepCallV R o n args.toList an := by simp only [ostep1, ho]
    rw [e]
    exact go_fin h
  · rename_i h1 h2 h3
    refine ⟨default, ?_⟩
    have e : ostep1 P R o default = astep P o := by
      unfold ostep1
      split
      · rename_i ho; exact absurd ho (h1 _ _ _)
      · rename_i ho; exact absurd ho (h2 _ _ _)
      · rename_i ho; exact absurd ho (h3 _ _ _)
      · rfl
    rw [e]
    exact go_fin h
end Vx

