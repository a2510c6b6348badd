import Derived.Test.YtjfpbaknhaikmaaV16
namespace Vx
open Go Classical
set_option linter.unusedSimpArgs false
set_option linter.unusedVariables false

/-! ## Renaming places -/
structure Ren where
  S : CA → Prop
  D : CA → Prop
  f : CA → CA
  fi : CA → CA
  inv : ∀ a, S a → D (f a) ∧ fi (f a) = a
  hop : ∀ a, S a → ∀ h, S (a.hop h) ∧ f (a.hop h) = (f a).hop h
noncomputable def Gh.ren (g : Gh) (R : Ren) : Gh :=
  { g with
    ow := fun b => match g.ow b with
      | .own a => if R.S a then .own (R.f a) else if R.D a then .other else .own a
      | t => t
    hd := fun a => if R.D a then g.hd (R.fi a) else g.hd a }
theorem Ren.under (R : Ren) {a p : CA} (h : a.under p) (hp : R.S p) : R.S a := by
  obtain ⟨h1, h2, s, h3⟩ := h
  have : ∀ (s : List Hop) (a : CA), a.root = p.root → a.c = p.c → a.path = s ++ p.path → R.S a := by
    intro s
    induction s with
    | nil =>
      intro a h1 h2 h3
      have : a = p := by cases a; cases p; simp_all
      rw [this]; exact hp
    | cons x s ih =>
      intro a h1 h2 h3
      have : a = (⟨a.root, a.c, s ++ p.path⟩ : CA).hop x := by cases a; simp_all [CA.hop]
      rw [this]
      exact (R.hop _ (ih ⟨a.root, a.c, s ++ p.path⟩ h1 h2 rfl) x).1
  exact this s a h1 h2 h3
section
variable {w w' : World} {g : Gh} {R : Ren}
/-- What is frozen or owned stays in memory. -/
def Mem (w w' : World) (g : Gh) : Prop := ∀ b, b < w.heap.size → (g.ow b = .frozen ∨ ∃ a, g.ow b = .own a) → w'.heap[b]? = w.heap[b]?
theorem Mem.refl (w : World) (g : Gh) : Mem w w g := fun _ _ _ => rfl
theorem Gh.ren_fz {b : Nat} (h : g.ow b = .frozen) : (g.ren R).ow b = .frozen := by simp [Gh.ren, h]
theorem Gh.ren_other {b : Nat} (h : g.ow b = .other) : (g.ren R).ow b = .other := by simp [Gh.ren, h]
theorem Gh.ren_box {b k : Nat} (h : g.ow b = .box k) : (g.ren R).ow b = .box k := by simp [Gh.ren, h]
theorem Gh.ren_hd {a : CA} (h : ¬ R.D a) : (g.ren R).hd a = g.hd a := by
  show (if _ then _ else _) = _
  rw [if_neg h]
theorem Rep.ren {p : CA} {t : T} {v : Value} (h : Rep w g p t v) (hm : Mem w w' g) (hp : R.S p) : Rep w' (g.ren R) (R.f p) t v :=
  Rep.map (w' := w') (g' := g.ren R) R.f h (Nat.le_refl _) (fun a' ha s => (R.hop a' (R.under ha hp) s).2)
    (fun b hlt hb => ⟨Gh.ren_fz hb, hm b hlt (.inl hb)⟩) (fun b a' hlt ha hb => ⟨by simp [Gh.ren, hb, R.under ha hp], hm b hlt (.inr ⟨_, hb⟩)⟩)
    (fun a' ha => by
      obtain ⟨h1, h2⟩ := R.inv a' (R.under ha hp)
      show (if R.D (R.f a') then g.hd (R.fi (R.f a')) else g.hd (R.f a')) = g.hd a'
      rw [if_pos h1, h2])
theorem Gh.ren_still (hm : Mem w w' g) {r : Root} {c : Nat} (hS : ∀ p, ¬ R.S ⟨r, c, p⟩) (hD : ∀ p, ¬ R.D ⟨r, c, p⟩) : Still w w' g (g.ren R) r c := by
  refine ⟨fun b s hlt ho => ⟨?_, hm b hlt (.inr ⟨_, ho⟩)⟩, fun s => Gh.ren_hd (hD s)⟩
  simp only [Gh.ren, ho]
  rw [if_neg (hS s), if_neg (hD s)]
theorem FRep.ren {t : T} {v : Value} (h : FRep w g t v) (hm : Mem w w' g) : FRep w' (g.ren R) t v :=
  h.frame (Nat.le_refl _) fun b hb ho => ⟨Gh.ren_fz ho, hm b hb (.inl ho)⟩
end

/-! ## Cells stored into a box -/
/-- From the scratch root into the cells `c, c + 1, ..` of the box `k`: those of `row` that own. -/
def boxRen (k c : Nat) (row : List C) : Ren where
  S a := a.root = .ret ∧ ∃ x, row[a.c]? = some x ∧ x.isOwn = true
  D a := a.root = .obj k ∧ c ≤ a.c ∧ ∃ x, row[a.c - c]? = some x ∧ x.isOwn = true
  f a := ⟨.obj k, c + a.c, a.path⟩
  fi a := ⟨.ret, a.c - c, a.path⟩
  inv := by
    rintro ⟨r, j, p⟩ ⟨h1, x, h2, h3⟩
    simp only at h1 h2
    subst h1
    refine ⟨⟨rfl, Nat.le_add_right _ _, x, ?_, h3⟩, ?_⟩
    · simp only [Nat.add_sub_cancel_left]; exact h2
    · simp
  hop := by
    rintro ⟨r, j, p⟩ h1 h
    exact ⟨h1, rfl⟩

structure BoxUpd (σ σ' : Sg) (k c : Nat) (row : List C) : Prop where
  slot : σ'.slot = σ.slot
  isnew : σ'.isnew = σ.isnew
  kind : σ'.kind = σ.kind
  mp : σ'.mp = σ.mp
  cell : ∀ i j, σ'.cell i j = if i = k ∧ c ≤ j ∧ j < c + row.length then row.getD (j - c) (.t .top) else σ.cell i j
  dirty : ∀ r j, σ'.dirty r j = true ↔ (σ.dirty r j = true ∨ (r = .obj k ∧ c ≤ j ∧ ∃ x, row[j - c]? = some x ∧ x.isOwn = true))
theorem boxUpd {m : Nat} : ∀ (row : List C) (σ : Sg) (k c : Nat), σ.kind k = some (.box m) → c + row.length ≤ m → BoxUpd σ (σ.upds (storeCells' k c row)) k c row
  | [], σ, k, c, hk, hc => ⟨rfl, rfl, rfl, rfl, fun i j => by rw [if_neg (by simp only [List.length_nil]; omega)]; rfl, fun r j => by simp [Sg.upds, storeCells']⟩
  | x :: row, σ, k, c, hk, hc => by
    simp only [List.length_cons] at hc
    have hin : σ.inr k c = true := by simp [Sg.inr, hk, inrK]; omega
    have e : σ.upds (storeCells' k c (x :: row)) = (((σ.upd (.cell k c x)).upds (if x.isOwn then [.dirtC k c] else [])).upds (storeCells' k (c + 1) row)) := by
      simp only [storeCells', Sg.upds, List.foldl_cons, List.foldl_append]
    rw [e]
    have hb : BoxUpd σ ((σ.upd (.cell k c x)).upds (if x.isOwn then [.dirtC k c] else [])) k c [x] := by
      refine ⟨?_, ?_, ?_, ?_, fun i j => ?_, fun r j => ?_⟩
      · split <;> rfl
      · split <;> rfl
      · split <;> rfl
      · split <;> rfl
      · have : ((σ.upd (.cell k c x)).upds (if x.isOwn then [.dirtC k c] else [])).cell i j = (σ.upd (.cell k c x)).cell i j := by split <;> rfl
        rw [this]
        simp only [Sg.upd, Sg.setP, hin, and_true, List.length_singleton]
        by_cases e : i = k ∧ j = c
        · obtain ⟨rfl, rfl⟩ := e
          simp
        · rw [if_neg e, if_neg (by omega)]
      · by_cases ho : x.isOwn = true
        · simp only [if_pos ho, Sg.upds, List.foldl_cons, List.foldl_nil, Sg.upd, Sg.setP_dirty]
          by_cases e : r = .obj k ∧ j = c
          · rw [if_pos e]
            obtain ⟨rfl, rfl⟩ := e
            simp [ho]
          · rw [if_neg e]
            constructor
            · exact .inl
            · rintro (h | ⟨h1, h2, y, h3, _⟩)
              · exact h
              · have := lt_of_getElem? h3
                simp at this
                exact absurd ⟨h1, by omega⟩ e
        · simp only [if_neg ho, Sg.upds, List.foldl_nil, Sg.upd, Sg.setP_dirty]
          constructor
          · exact .inl
          · rintro (h | ⟨h1, h2, y, h3, h4⟩)
            · exact h
            · have := lt_of_getElem? h3
              simp at this
              have : j - c = 0 := by omega
              rw [this] at h3
              simp at h3
              subst h3
              exact absurd h4 ho
    have ih := boxUpd row ((σ.upd (.cell k c x)).upds (if x.isOwn then [.dirtC k c] else [])) k (c + 1) (by rw [hb.kind]; exact hk) (by omega)
    refine ⟨ih.slot.trans hb.slot, ih.isnew.trans hb.isnew, ih.kind.trans hb.kind, ih.mp.trans hb.mp, fun i j => ?_, fun r j => ?_⟩
    · rw [ih.cell, hb.cell]
      simp only [List.length_cons, List.length_singleton]
      by_cases h1 : i = k ∧ c + 1 ≤ j ∧ j < c + 1 + row.length
      · rw [if_pos h1, if_pos (by omega), show j - c = (j - (c + 1)) + 1 by omega]
        rfl
      · rw [if_neg h1]
        by_cases h2 : i = k ∧ c ≤ j ∧ j < c + 1
        · rw [if_pos (by simpa using h2), if_pos (by omega), show j - c = 0 by omega]
          rfl
        · rw [if_neg (by simpa using h2), if_neg (by omega)]
    · rw [ih.dirty, hb.dirty]
      constructor
      · rintro ((h | ⟨h1, h2, y, h3, h4⟩) | ⟨h1, h2, y, h3, h4⟩)
        · exact .inl h
        · have := lt_of_getElem? h3
          simp at this
          exact .inr ⟨h1, h2, y, by rw [show j - c = 0 by omega] at h3 ⊢; simpa using h3, h4⟩
        · exact .inr ⟨h1, by omega, y, by rw [show j - c = (j - (c + 1)) + 1 by omega]; simpa using h3, h4⟩
      · rintro (h | ⟨h1, h2, y, h3, h4⟩)
        · exact .inl (.inl h)
        · by_cases e : j = c
          · subst e
            exact .inl (.inr ⟨h1, h2, y, by simpa using h3, h4⟩)
          · exact .inr ⟨h1, by omega, y, by rw [show j - c = (j - (c + 1)) + 1 by omega] at h3; simpa using h3, h4⟩

theorem Core.storeCells {E : Env} {σ : Sg} {tmps : Array Value} {w : World} {g : Gh} (hc : Core E σ tmps w g) {k m c : Nat} (hk : σ.kind k = some (.box m)) {row : List C} (hcm : c + row.length ≤ m) {vs : Nat → Value}
    (hrow : ∀ j x, row[j]? = some x → CRep w g σ.dirty ⟨.ret, j, []⟩ x (vs j)) (hroots : ∀ x ∈ row, ∀ r ∈ x.roots, σ.ex r) {cs : Array Value} {el : TypeId} (hh : w.heap[(g.bl k).1]? = some (.cells cs el (0, 0)))
    {cs' : Array Value} (hcs : cs' = (cs.toList.take ((g.bl k).2.1 + c) ++ (List.range row.length).map vs ++ cs.toList.drop ((g.bl k).2.1 + c + row.length)).toArray) :
    Core E (σ.upds (storeCells' k c row)) tmps (w.setRow (g.bl k).1 cs') (g.ren (boxRen k c row)) ∧ Move w g (w.setRow (g.bl k).1 cs') (g.ren (boxRen k c row)) := by
  have hu := boxUpd row σ k c hk hcm
  generalize hσ : σ.upds (storeCells' k c row) = σ' at hu ⊢
  obtain ⟨cs0, el0, b1, b2, b3, b4, b5⟩ := hc.objs k _ hk
  rw [hh] at b1
  cases b1
  have hexk : σ.ex (.obj k) := .inr (.inl (by rw [hk]; simp))
  have hm : Mem w (w.setRow (g.bl k).1 cs') g := fun b _ hb => setRow_other w _ b _ (fun e => by
    subst e
    rw [b2] at hb
    rcases hb with h | ⟨a, h⟩ <;> cases h)
  have hnb : ∀ b, g.ow b ≠ .box k → (w.setRow (g.bl k).1 cs').heap[b]? = w.heap[b]? := fun b hb => setRow_other w _ b _ (fun e => hb (e ▸ b2))
  have hsz : cs'.size = cs.size := by
    rw [hcs]
    simp
    omega
  have hget : ∀ i, cs'[i]? = if (g.bl k).2.1 + c ≤ i ∧ i < (g.bl k).2.1 + c + row.length then some (vs (i - ((g.bl k).2.1 + c))) else cs[i]? := by
    intro i
    rw [hcs]
    simp only [List.getElem?_toArray]
    have hl1 : (cs.toList.take ((g.bl k).2.1 + c)).length = (g.bl k).2.1 + c := by simp; omega
    rw [List.append_assoc, List.getElem?_append, hl1]
    by_cases h1 : i < (g.bl k).2.1 + c
    · rw [if_pos h1, if_neg (by omega), List.getElem?_take, if_pos h1]
      simp
    · rw [if_neg h1, List.getElem?_append]
      simp only [List.length_map, List.length_range]
      by_cases h2 : i - ((g.bl k).2.1 + c) < row.length
      · rw [if_pos h2, if_pos (by omega)]
        simp [h2]
      · rw [if_neg h2, if_neg (by omega), List.getElem?_drop]
        simp only [Array.getElem?_toList]
        congr 1
        omega
  have hS : ∀ r j p, σ.ex r → ¬ (boxRen k c row).S ⟨r, j, p⟩ := by
    rintro r j p hr ⟨h1, _⟩
    simp only at h1
    subst h1
    exact hr
  have hexeq : σ'.ex = σ.ex := by
    funext r
    cases r <;> simp [Sg.ex, hu.isnew, hu.kind, hu.mp]
  have hD : ∀ r j p, σ'.dirty r j = false → ¬ (boxRen k c row).D ⟨r, j, p⟩ := by
    rintro r j p hd ⟨h1, h2⟩
    have := (hu.dirty r j).2 (.inr ⟨h1, h2⟩)
    rw [hd] at this
    cases this
  have hDk : ∀ r j p, r ≠ .obj k → ¬ (boxRen k c row).D ⟨r, j, p⟩ := by
    rintro r j p hd ⟨h1, _⟩
    exact hd h1
  have hkeep : Keeps w (w.setRow (g.bl k).1 cs') g (g.ren (boxRen k c row)) σ.dirty σ'.dirty σ.ex := by
    refine ⟨Nat.le_refl _, fun b hb h => ⟨Gh.ren_fz h, hm b hb (.inl h)⟩, fun r j hr hd => ⟨?_, fun p => Gh.ren_hd (hD r j p hd)⟩, fun _ _ => rfl⟩
    cases h : σ.dirty r j with
    | false => rfl
    | true => rw [(hu.dirty r j).2 (.inl h)] at hd; cases hd
  have hnew : ∀ j x, row[j]? = some x → CRep (w.setRow (g.bl k).1 cs') (g.ren (boxRen k c row)) σ'.dirty ⟨.obj k, c + j, []⟩ x (vs j) := by
    intro j x hj
    by_cases ho : x.isOwn = true
    · have h1 := hrow j x hj
      unfold C.isOwn at ho
      split at ho
      · cases h1 with
        | t h1 => exact .t (h1.ren (R := boxRen k c row) (p := ⟨.ret, j, []⟩) hm ⟨rfl, _, hj, rfl⟩)
      · cases ho
    · exact (hrow j x hj).keeps (by simpa using ho) hkeep (hroots x (List.mem_of_getElem? hj))
  refine ⟨Core.step hc hkeep (fun n => .inl ⟨by rw [hu.slot], by rw [hu.isnew], rfl, fun j => Gh.ren_still hm (fun p => hS _ j p (σ.rt_ex n)) (fun p => hDk _ j p (σ.rt_ne_obj n k))⟩) (fun i kd h => ?_) (fun i j => ?_)
    (fun i es h => .inl ⟨by rw [← hu.mp]; exact h, fun _ h' => ⟨Gh.ren_box h', ?_⟩⟩) (fun r hr => by rw [hexeq]; exact hr) (fun b hb => ⟨by rw [(hc.glob b hb).1, Gh.ren_other (hc.glob b hb).1], hnb b (by rw [(hc.glob b hb).1]; intro e; cases e)⟩) (by simp), ?_⟩
  · rw [hu.kind] at h
    by_cases e : i = k
    · subst e
      right
      rw [hk] at h
      cases h
      refine ⟨cs', el, setRow_heap w _ _ _ _ _ hh, Gh.ren_box b2, b3, by rw [hsz]; exact b4, fun j hj => ?_⟩
      show ∃ u, cs'[(g.bl i).2.1 + j]? = some u ∧ _
      rw [hget, hu.cell]
      by_cases h1 : c ≤ j ∧ j < c + row.length
      · rw [if_pos (by omega), if_pos ⟨rfl, h1⟩]
        have hlt : j - c < row.length := by omega
        have := hnew (j - c) row[j - c] (List.getElem?_eq_getElem hlt)
        rw [show c + (j - c) = j by omega] at this
        refine ⟨vs (j - c), by congr 2; omega, ?_⟩
        simpa [List.getD, hlt] using this
      · rw [if_neg (by omega), if_neg (by omega)]
        obtain ⟨u, u1, u2⟩ := b5 j hj
        refine ⟨u, u1, u2.still hkeep (hc.liveC i j) (Gh.ren_still hm (fun p => hS _ j p hexk) fun p hd => ?_)⟩
        obtain ⟨_, h2, x, h3, _⟩ := hd
        simp only at h2 h3
        have := lt_of_getElem? h3
        omega
    · left
      have hexi : σ.ex (.obj i) := .inr (.inl (by rw [h]; simp))
      refine ⟨h, fun j => ⟨by rw [hu.cell, if_neg (by omega)], Gh.ren_still hm (fun p => hS _ j p hexi) (fun p => hDk _ j p (by intro q; cases q; exact e rfl))⟩, fun _ h' => ⟨Gh.ren_box h', hnb _ (by rw [h']; intro q; cases q; exact e rfl)⟩⟩
  · rw [hu.cell, hexeq]
    by_cases h1 : i = k ∧ c ≤ j ∧ j < c + row.length
    · rw [if_pos h1]
      right
      have hlt : j - c < row.length := by omega
      have e : row.getD (j - c) (.t .top) = row[j - c] := by simp [List.getD, hlt]
      rw [e]
      exact hroots _ (List.getElem_mem hlt)
    · rw [if_neg h1]; exact .inl rfl
  · refine setRow_other w _ _ _ fun q => ?_
    obtain ⟨l, ck, m1, _⟩ := hc.maps i es (by rw [← hu.mp]; exact h)
    rw [q, hh] at m1
    cases m1
  · refine ⟨by simp, rfl, fun b hb h => ?_, fun _ _ => rfl, fun b j hb hj h => ⟨Gh.ren_box h, fun cs1 el1 fr hh1 => ?_⟩, rfl, rfl, rfl⟩
    · refine ⟨?_, hnb b (by intro q; rw [q] at h; rcases h with h | h <;> cases h)⟩
      rcases h with h | h
      · rw [h, Gh.ren_fz h]
      · rw [h, Gh.ren_other h]
    · by_cases e : b = (g.bl k).1
      · subst e
        rw [b2] at h
        cases h
        rw [hh] at hh1
        cases hh1
        refine ⟨cs', setRow_heap w _ _ _ _ _ hh, hsz, fun i hi => ?_⟩
        rw [b3] at hi
        rw [hget, if_neg (by omega)]
      · exact ⟨cs1, (setRow_other w _ b _ e).trans hh1, rfl, fun _ _ => rfl⟩
end Vx
