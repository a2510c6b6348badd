import Derived.Test.YtjfpbaknhaikmaaV13
namespace Vx
open Go Classical
set_option linter.unusedSimpArgs false
set_option linter.unusedVariables false

/-! ## A new block -/
def _root_.Go.World.plus (w : World) (ob : Obj) : World := { w with heap := w.heap.push ob }
theorem plus_old {w : World} {ob : Obj} {b : Nat} (h : b < w.heap.size) : (w.plus ob).heap[b]? = w.heap[b]? := by
  simp only [World.plus]
  rw [Array.getElem?_push_lt h, Array.getElem?_eq_getElem h]
theorem plus_new (w : World) (ob : Obj) : (w.plus ob).heap[w.heap.size]? = some ob := Array.getElem?_push_size
theorem plus_size (w : World) (ob : Obj) : (w.plus ob).heap.size = w.heap.size + 1 := by simp [World.plus]
noncomputable def Gh.fresh (g : Gh) (b : Nat) (tag : Tag) (hd : CA → Value) (bl : Nat → Nat × Nat × Nat) : Gh :=
  { g with ow := fun i => if i = b then tag else g.ow i, hd := hd, bl := bl }
section
variable {w : World} {g : Gh} {ob : Obj} {tag : Tag} {hd : CA → Value} {bl : Nat → Nat × Nat × Nat}
theorem fresh_ow {b : Nat} (h : b < w.heap.size) : (g.fresh w.heap.size tag hd bl).ow b = g.ow b := by
  simp only [Gh.fresh]
  rw [if_neg (Nat.ne_of_lt h)]
theorem fresh_keeps {d : Dirt} {S : Root → Prop} (h1 : ∀ r c p, S r → hd ⟨r, c, p⟩ = g.hd ⟨r, c, p⟩) (h2 : ∀ k, S (.obj k) → bl k = g.bl k) : Keeps w (w.plus ob) g (g.fresh w.heap.size tag hd bl) d d S :=
  ⟨Nat.le_refl _, fun b hb h => ⟨(fresh_ow hb).trans h, plus_old hb⟩, fun r c hr h => ⟨h, fun p => h1 r c p hr⟩, fun k hk => h2 k hk⟩
theorem fresh_still {r : Root} {c : Nat} (h1 : ∀ p, hd ⟨r, c, p⟩ = g.hd ⟨r, c, p⟩) : Still w (w.plus ob) g (g.fresh w.heap.size tag hd bl) r c :=
  ⟨fun b p hb h => ⟨(fresh_ow hb).trans h, plus_old hb⟩, fun p => h1 p⟩
theorem fresh_move (h2 : ∀ k, k < 1000 → bl k = g.bl k) : Move w g (w.plus ob) (g.fresh w.heap.size tag hd bl) :=
  ⟨by rw [plus_size]; omega, rfl, fun b hb h => ⟨fresh_ow hb, plus_old hb⟩, h2, fun b k hb hk h => ⟨(fresh_ow hb).trans h, fun cs el fr hh => ⟨cs, (plus_old hb).trans hh, rfl, fun _ _ => rfl⟩⟩, rfl, rfl, rfl⟩
theorem Core.fresh {E : Env} {σ : Sg} {tmps : Array Value} (hc : Core E σ tmps w g) (h1 : ∀ r c p, σ.ex r → hd ⟨r, c, p⟩ = g.hd ⟨r, c, p⟩) (h2 : ∀ k, σ.ex (.obj k) → bl k = g.bl k) : Core E σ tmps (w.plus ob) (g.fresh w.heap.size tag hd bl) := by
  refine Core.step hc (fresh_keeps h1 h2) (fun n => .inl ⟨rfl, rfl, rfl, fun c => fresh_still fun p => h1 _ _ p (σ.rt_ex n)⟩)
    (fun k kd h => .inl ⟨h, fun c => ⟨rfl, fresh_still fun p => h1 _ _ p (.inr (.inl (by rw [h]; simp)))⟩, fun hb hj => ⟨(fresh_ow hb).trans hj, plus_old hb⟩⟩) (fun k c => .inl rfl)
    (fun k es h => .inl ⟨h, fun hb hj => ⟨(fresh_ow hb).trans hj, plus_old hb⟩⟩) (fun _ h => h)
    (fun b hb => ⟨fresh_ow (Nat.lt_of_lt_of_le hb hc.size), plus_old (Nat.lt_of_lt_of_le hb hc.size)⟩) (by rw [plus_size]; omega)
theorem Rep.fresh {a : CA} {t : T} {v : Value} (h : Rep w g a t v) (h1 : ∀ a', a'.under a → hd a' = g.hd a') : Rep (w.plus ob) (g.fresh w.heap.size tag hd bl) a t v :=
  h.frame (Nat.le_refl _) (fun b hb h => ⟨(fresh_ow hb).trans h, plus_old hb⟩) (fun b a' hb _ h => ⟨(fresh_ow hb).trans h, plus_old hb⟩) h1
end

/-- A new box. -/
theorem Core.newbox {E : Env} {σ : Sg} {tmps : Array Value} {w : World} {g : Gh} (hc : Core E σ tmps w g) {k : Nat} (hk : ¬ σ.ex (.obj k)) {cs : Array Value} {el : TypeId} {row : List C}
    (hrow : ∀ j x, row[j]? = some x → ∃ u, cs[j]? = some u ∧ CRep w g σ.dirty ⟨.obj k, j, []⟩ x u) (hlen : row.length = cs.size) (hroots : ∀ x ∈ row, ∀ r ∈ x.roots, σ.ex r) :
    Core E (σ.upd (.box k row)) tmps (w.plus (.cells cs el (0, 0))) (g.fresh w.heap.size (.box k) g.hd fun i => if i = k then (w.heap.size, 0, row.length) else g.bl i) := by
  have hbl : ∀ k', σ.ex (.obj k') → (fun i => if i = k then (w.heap.size, 0, row.length) else g.bl i) k' = g.bl k' := by
    intro k' h
    simp only
    rw [if_neg]
    rintro rfl
    exact hk h
  have hc1 := hc.fresh (ob := .cells cs el (0, 0)) (tag := .box k) (hd := g.hd) (bl := fun i => if i = k then (w.heap.size, 0, row.length) else g.bl i) (fun _ _ _ _ => rfl) hbl
  have hex : ∀ r, σ.ex r → (σ.upd (.box k row)).ex r := by
    intro r h
    cases r with
    | obj j =>
      simp only [Sg.ex, Sg.upd] at h ⊢
      by_cases e : j = k
      · subst e; right; left; simp
      · rcases h with h | h | h
        · exact .inl h
        · right; left; simpa [e] using h
        · exact .inr (.inr h)
    | _ => exact h
  refine Core.step hc1 (Keeps.refl _ _ _ _) (fun n => .inl ⟨rfl, rfl, rfl, fun c => Still.refl _ _ _ _⟩) (fun j kd h => ?_) (fun j c => ?_) (fun j es h => .inl ⟨h, fun _ h => ⟨h, rfl⟩⟩) hex (fun b _ => ⟨rfl, rfl⟩) (Nat.le_refl _)
  · by_cases e : j = k
    · subst e
      right
      simp only [Sg.upd, if_true] at h
      cases h
      refine ⟨cs, el, ?_, ?_, ?_, ?_, fun c hcl => ?_⟩
      · simp only [Gh.fresh, if_true]; exact plus_new _ _
      · simp [Gh.fresh]
      · simp [Gh.fresh]
      · simp [Gh.fresh, hlen]
      · obtain ⟨u, h1, h2⟩ := hrow c row[c] (List.getElem?_eq_getElem hcl)
        refine ⟨u, by simpa [Gh.fresh] using h1, ?_⟩
        have : (σ.upd (.box j row)).cell j c = row[c] := by simp [Sg.upd, List.getD, hcl]
        rw [this]
        exact h2.still (fresh_keeps (d := σ.dirty) (S := σ.ex) (fun _ _ _ _ => rfl) hbl) (hroots _ (List.getElem_mem _)) (fresh_still fun _ => rfl)
    · left
      have h' : σ.kind j = some kd := by simpa [Sg.upd, e] using h
      exact ⟨h', fun c => ⟨by simp [Sg.upd, e], Still.refl _ _ _ _⟩, fun _ h => ⟨h, rfl⟩⟩
  · by_cases e : j = k
    · subst e
      right
      intro r hr
      apply hex
      have : (σ.upd (.box j row)).cell j c = row.getD c (.t .top) := by simp [Sg.upd]
      rw [this] at hr
      rcases Nat.lt_or_ge c row.length with hcl | hcl
      · rw [List.getD, List.getElem?_eq_getElem hcl] at hr
        exact hroots _ (List.getElem_mem _) r hr
      · rw [List.getD, List.getElem?_eq_none hcl] at hr
        simp [C.roots] at hr
    · left
      simp [Sg.upd, e]

theorem TkL.roots {σ : Sg} {l l' : List C} {us : List Upd} (h : TkL σ l l' us) : ∀ x ∈ l', ∀ r ∈ x.roots, ∃ y ∈ l, r ∈ y.roots := by
  induction h with
  | nil => intro x hx; cases hx
  | keep h ih =>
    intro x hx r hr
    rcases List.mem_cons.1 hx with e | e
    · subst e; exact ⟨_, by simp, hr⟩
    · obtain ⟨y, h1, h2⟩ := ih x e r hr
      exact ⟨y, by simp [h1], h2⟩
  | take hp ht h ih =>
    intro x hx r hr
    rcases List.mem_cons.1 hx with e | e
    · subst e; simp [C.roots] at hr
    · obtain ⟨y, h1, h2⟩ := ih x e r hr
      exact ⟨y, by simp [h1], h2⟩
theorem Rep.one {w : World} {g : Gh} {a : CA} {x : T} {v : Value} (h : Rep w g a x v) (ho : x.one = true) : v.oneCell' = true := by
  cases h with
  | fro h => cases h <;> first | rfl | exact ho | (simp [T.one] at ho)
  | onil => rfl
  | own => rfl
theorem CRep.one {w : World} {g : Gh} {d : Dirt} {a : CA} {x : C} {v : Value} (h : CRep w g d a x v) (ho : x.one = true) : v.oneCell' = true := by
  cases h with
  | t h =>
    refine h.one ?_
    rename_i y
    cases y <;> first | rfl | exact ho
  | ref _ h1 => exact h1
  | ptr _ _ h1 => exact h1
  | fp => rfl
  | clo => rfl
  | mp h => subst h; rfl
theorem cells_one {v : Value} (h : v.oneCell' = true) : v.cells = #[v] := by
  cases v <;> first | rfl | (simp [Value.oneCell'] at h)

/-- The cells of an operand that is one row. -/
theorem SVRep.row {w : World} {g : Gh} {d : Dirt} {r : Root} {sv : SV} {v : Value} {row : List C} (h : SVRep w g d r 0 sv v) (hr : sv.row = some row) :
    ∃ vs : Nat → Value, (∀ j x, row[j]? = some x → CRep w g d ⟨r, j, []⟩ x (vs j)) ∧ (v.oneCell' = true → sv = .c (row.getD 0 (.t .top)) → v.cells = ((List.range row.length).map vs).toArray) ∧
      ((∃ l, sv = .agg l) → v.cells = ((List.range row.length).map vs).toArray) := by
  cases h with
  | c h =>
    cases hr
    refine ⟨fun _ => v, fun j x hj => ?_, fun ho _ => by rw [cells_one ho]; rfl, fun ⟨l, e⟩ => by cases e⟩
    cases j with
    | zero => simp at hj; subst hj; exact h
    | succ j => simp at hj
  | agg vs h =>
    cases hr
    exact ⟨vs, fun j x hj => by have := h j x hj; rwa [Nat.zero_add] at this, fun _ e => (by cases e), fun _ => rfl⟩
  | tup vs h => cases hr

/-- All cells of an operand are single ones. -/
theorem SVRep.cells {w : World} {g : Gh} {d : Dirt} {r : Root} {sv : SV} {v : Value} {row : List C} (h : SVRep w g d r 0 sv v) (hr : sv.row = some row) (h1 : ∀ x, sv = .c x → v.oneCell' = true) :
    ∃ vs : Nat → Value, (∀ j x, row[j]? = some x → CRep w g d ⟨r, j, []⟩ x (vs j)) ∧ v.cells = ((List.range row.length).map vs).toArray := by
  obtain ⟨vs, a1, a2, a3⟩ := h.row hr
  refine ⟨vs, a1, ?_⟩
  cases sv with
  | c x =>
    cases hr
    exact a2 (h1 x rfl) rfl
  | agg l => exact a3 ⟨l, rfl⟩
  | tup l => cases hr
end Vx
