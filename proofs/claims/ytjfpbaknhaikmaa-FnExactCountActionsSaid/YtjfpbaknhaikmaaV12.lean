import Derived.Test.YtjfpbaknhaikmaaV11
namespace Vx
open Go Classical
set_option linter.unusedSimpArgs false
set_option linter.unusedVariables false

/-! ## A place's content -/
structure PlaceAt (σ : Sg) (r : Root) (c : Nat) (t : T) : Prop where
  ex : σ.ex r
  slot : ∀ n, (r = .slot n ∨ r = .new n) → r = σ.rt n ∧ (σ.slot n).cellAt c = some (.t t)
  obj : ∀ k, r = .obj k → σ.inr k c = true ∧ σ.cell k c = .t t
  nret : r ≠ .ret
structure PlaceIs (σ : Sg) (r : Root) (c : Nat) (t : T) : Prop extends PlaceAt σ r c t where
  dirty : σ.dirty r c = false
theorem place_is {σ : Sg} {r : Root} {c : Nat} {f : T → Rd Eff} (h : ((place r c f).run σ).ok) : ∃ t, (place r c f).run σ = (f t).run σ ∧ PlaceIs σ r c t := by
  obtain ⟨t, e, h1, h2, h3, h4, h5⟩ := place_ok h
  exact ⟨t, e, ⟨h2, h3, h4, h5⟩, h1⟩
theorem deref_is {σ : Sg} {a : CA} {f : T → T → Rd Eff} (h : ((deref a f).run σ).ok) : ∃ t x, (deref a f).run σ = (f t x).run σ ∧ t.at a.path = some x ∧ PlaceIs σ a.root a.c t := by
  obtain ⟨t, x, e, h0, h1, h2, h3, h4, h5⟩ := deref_ok h
  exact ⟨t, x, e, h0, ⟨h2, h3, h4, h5⟩, h1⟩
theorem PlaceIs.rep {E : Env} {σ : Sg} {tmps : Array Value} {w : World} {g : Gh} {r : Root} {c : Nat} {t : T} (h : PlaceIs σ r c t) (hc : Core E σ tmps w g) : ∃ v, Rep w g ⟨r, c, []⟩ t v :=
  hc.place h.slot h.obj h.nret
theorem CA.eta (a : CA) : (⟨a.root, a.c, []⟩ : CA).go a.path = a := by cases a; simp [CA.go]
theorem CA.go_mk (r : Root) (c : Nat) (p : List Hop) : (⟨r, c, []⟩ : CA).go p = ⟨r, c, p⟩ := by simp [CA.go]

theorem rt_inj {n m : Nat} {a b : Bool} (h : Vx.rt n a = Vx.rt m b) : n = m := by
  unfold Vx.rt at h
  split at h <;> split at h <;> cases h <;> rfl
theorem Sg.rt_inj {σ τ : Sg} {n m : Nat} (h : σ.rt n = τ.rt m) : n = m := Vx.rt_inj h
theorem Sg.rt_slot (σ : Sg) (n : Nat) : σ.rt n = .slot n ∨ σ.rt n = .new n := by
  unfold Sg.rt Vx.rt
  split <;> simp
theorem Sg.rt_ne_obj (σ : Sg) (n k : Nat) : σ.rt n ≠ .obj k := by
  rcases σ.rt_slot n with h | h <;> rw [h] <;> intro e <;> cases e

/-! ## Writing into a slot's value -/
theorem SVRep.setAt {w w' : World} {g g' : Gh} {d d' : Dirt} {S : Root → Prop} {r : Root} {sv : SV} {v : Value} {c : Nat} {x : T} {y : C} (h : SVRep w g d r 0 sv v) (hf : sv.flat = true) (hx : sv.cellAt c = some (.t x))
    (k : Keeps w w' g g' d d' S) (hS : ∀ r ∈ sv.roots, S r) (hs : ∀ c', c' ≠ c → Still w w' g g' r c') (hy : ∀ u, CRep w g d ⟨r, c, []⟩ (.t x) u → CRep w' g' d' ⟨r, c, []⟩ y u) : SVRep w' g' d' r 0 (sv.setAt c y) v := by
  cases h with
  | c h =>
    simp only [SV.cellAt] at hx
    split at hx
    · rename_i e
      subst e
      cases hx
      exact .c (hy _ h)
    · cases hx
  | agg vs h =>
    rename_i row
    have hlt := lt_of_getElem? (show row[c]? = some (.t x) from hx)
    have := SVRep.agg (w := w') (g := g') (d := d') (r := r) (n := 0) (row := row.set c y) vs (fun j z hj => by
      rw [Nat.zero_add]
      by_cases e : c = j
      · subst e
        rw [List.getElem?_set_self hlt] at hj
        cases hj
        have h1 := h c _ hx
        rw [Nat.zero_add] at h1
        exact hy _ h1
      · rw [List.getElem?_set_ne e] at hj
        have h1 := h j _ hj
        rw [Nat.zero_add] at h1
        exact h1.still k (fun r hr => hS r (by simp only [SV.roots]; exact C.mem_rootsL.2 ⟨z, List.mem_of_getElem? hj, hr⟩)) (hs j fun q => e q.symm))
    rw [List.length_set] at this
    exact this
  | tup vs h =>
    rename_i l
    have hroot : ∀ {j : Nat} {z : SV}, l[j]? = some z → ∀ r ∈ z.roots, S r := fun hj r hr => hS r (by simp only [SV.roots]; exact SV.mem_rootsL.2 ⟨_, List.mem_of_getElem? hj, hr⟩)
    have hflat : ∀ {j : Nat} {z : SV}, l[j]? = some z → (∀ l', z ≠ .tup l') ∧ ∀ row, z = .agg row → row.length ≤ 64 := by
      intro j z hj
      simp only [SV.flat, List.all_eq_true] at hf
      have := hf z (List.mem_of_getElem? hj)
      cases z with
      | tup l' => simp at this
      | agg row => exact ⟨(by intro l' e; cases e), fun r e => by cases e; simpa using this⟩
      | c x => exact ⟨(by intro l' e; cases e), fun r e => by cases e⟩
    have hother : ∀ {j : Nat} {z : SV}, l[j]? = some z → c / 64 - 1 ≠ j → 64 ≤ c → SVRep w g d r (0 + 64 * (j + 1)) z (vs j) → SVRep w' g' d' r (0 + 64 * (j + 1)) z (vs j) := by
      intro j z hj e hc h1
      obtain ⟨f1, f2⟩ := hflat hj
      revert h1
      generalize vs j = u
      intro h1
      cases h1 with
      | c h1 => exact .c (h1.still k (hroot hj) (hs _ (by simp only; omega)))
      | agg us h1 =>
        have f3 := f2 _ rfl
        refine .agg us fun i z2 hi => (h1 i z2 hi).still k (fun r hr => hroot hj r (by simp only [SV.roots]; exact C.mem_rootsL.2 ⟨z2, List.mem_of_getElem? hi, hr⟩)) (hs _ ?_)
        have := lt_of_getElem? hi
        simp only
        omega
      | tup us h1 => exact absurd rfl (f1 _)
    simp only [SV.cellAt] at hx
    split at hx
    · rename_i y0 hy0
      split at hx
      · rename_i e
        cases hx
        obtain ⟨e1, e2⟩ := e
        have hlt := lt_of_getElem? hy0
        have hset : (SV.tup l).setAt c y = .tup (l.set (c / 64 - 1) (.c y)) := by simp only [SV.setAt, hy0]
        rw [hset]
        have := SVRep.tup (w := w') (g := g') (d := d') (r := r) (n := 0) (l := l.set (c / 64 - 1) (.c y)) vs (fun j z hj => by
          by_cases e : c / 64 - 1 = j
          · subst e
            rw [List.getElem?_set_self hlt] at hj
            cases hj
            have h1 := h _ _ hy0
            cases h1 with
            | c h1 =>
              refine .c ?_
              rw [show 0 + 64 * (c / 64 - 1 + 1) = c by omega] at h1 ⊢
              exact hy _ h1
          · rw [List.getElem?_set_ne e] at hj
            exact hother hj e e2 (h j _ hj))
        rw [List.length_set] at this
        exact this
      · cases hx
    · rename_i row hy0
      split at hx
      · rename_i e
        have hlt := lt_of_getElem? hy0
        have hlr := lt_of_getElem? hx
        have hset : (SV.tup l).setAt c y = .tup (l.set (c / 64 - 1) (.agg (row.set (c % 64) y))) := by simp only [SV.setAt, hy0]
        rw [hset]
        have := SVRep.tup (w := w') (g := g') (d := d') (r := r) (n := 0) (l := l.set (c / 64 - 1) (.agg (row.set (c % 64) y))) vs (fun j z hj => by
          by_cases e' : c / 64 - 1 = j
          · subst e'
            rw [List.getElem?_set_self hlt] at hj
            cases hj
            have h1 := h _ _ hy0
            revert h1
            generalize vs (c / 64 - 1) = u
            intro h1
            cases h1 with
            | agg us h1 =>
              have := SVRep.agg (w := w') (g := g') (d := d') (r := r) (n := 0 + 64 * (c / 64 - 1 + 1)) (row := row.set (c % 64) y) us (fun i z2 hi => by
                have e3 : 0 + 64 * (c / 64 - 1 + 1) + c % 64 = c := by omega
                by_cases e2 : c % 64 = i
                · subst e2
                  rw [List.getElem?_set_self hlr] at hi
                  cases hi
                  have h2 := h1 _ _ hx
                  rw [e3] at h2 ⊢
                  exact hy _ h2
                · rw [List.getElem?_set_ne e2] at hi
                  exact (h1 i z2 hi).still k (fun r hr => hroot hy0 r (by simp only [SV.roots]; exact C.mem_rootsL.2 ⟨z2, List.mem_of_getElem? hi, hr⟩)) (hs _ (by simp only; omega)))
              rw [List.length_set] at this
              exact this
          · rw [List.getElem?_set_ne e'] at hj
            exact hother hj e' e (h j _ hj))
        rw [List.length_set] at this
        exact this
      · cases hx
    · cases hx

theorem rootsL_set {row : List C} {j : Nat} {y : C} : ∀ r ∈ C.rootsL (row.set j y), r ∈ C.rootsL row ∨ r ∈ y.roots := by
  intro r h
  obtain ⟨z, h1, h2⟩ := C.mem_rootsL.1 h
  rcases List.mem_or_eq_of_mem_set h1 with e | e
  · exact .inl (C.mem_rootsL.2 ⟨z, e, h2⟩)
  · subst e; exact .inr h2
theorem SV.setAt_roots (sv : SV) (c : Nat) (y : C) : ∀ r ∈ (sv.setAt c y).roots, r ∈ sv.roots ∨ r ∈ y.roots := by
  intro r h
  cases sv with
  | c x => exact .inr h
  | agg row => exact rootsL_set r h
  | tup l =>
    simp only [SV.setAt] at h
    split at h
    · rename_i x hx
      obtain ⟨z, h1, h2⟩ := SV.mem_rootsL.1 h
      rcases List.mem_or_eq_of_mem_set h1 with e | e
      · exact .inl (SV.mem_rootsL.2 ⟨z, e, h2⟩)
      · subst e; exact .inr h2
    · rename_i row hrow
      obtain ⟨z, h1, h2⟩ := SV.mem_rootsL.1 h
      rcases List.mem_or_eq_of_mem_set h1 with e | e
      · exact .inl (SV.mem_rootsL.2 ⟨z, e, h2⟩)
      · subst e
        rcases rootsL_set r h2 with e | e
        · exact .inl (SV.mem_rootsL.2 ⟨_, List.mem_of_getElem? hrow, e⟩)
        · exact .inr e
    · exact .inl h
theorem SV.setAt_flat (sv : SV) (c : Nat) (y : C) (h : sv.flat = true) : (sv.setAt c y).flat = true := by
  cases sv with
  | c x => rfl
  | agg row => rfl
  | tup l =>
    simp only [SV.flat, List.all_eq_true] at h
    simp only [SV.setAt]
    split
    · simp only [SV.flat, List.all_eq_true]
      intro z hz
      rcases List.mem_or_eq_of_mem_set hz with e | e
      · exact h z e
      · subst e; rfl
    · rename_i row hrow
      simp only [SV.flat, List.all_eq_true]
      intro z hz
      rcases List.mem_or_eq_of_mem_set hz with e | e
      · exact h z e
      · subst e
        have := h _ (List.mem_of_getElem? hrow)
        simpa using this
    · simp only [SV.flat, List.all_eq_true]; exact h

/-! ## One content moves -/
theorem Sg.setP_isnew (σ : Sg) (r : Root) (c : Nat) (x : C) : (σ.setP r c x).isnew = σ.isnew := by cases r <;> rfl
theorem Sg.setP_kind (σ : Sg) (r : Root) (c : Nat) (x : C) : (σ.setP r c x).kind = σ.kind := by cases r <;> rfl
theorem Sg.setP_mp (σ : Sg) (r : Root) (c : Nat) (x : C) : (σ.setP r c x).mp = σ.mp := by cases r <;> rfl
theorem Sg.setP_dirty (σ : Sg) (r : Root) (c : Nat) (x : C) : (σ.setP r c x).dirty = σ.dirty := by cases r <;> rfl
theorem Sg.setP_ex (σ : Sg) (r : Root) (c : Nat) (x : C) : (σ.setP r c x).ex = σ.ex := by
  funext q
  cases q <;> simp [Sg.ex, Sg.setP_isnew, Sg.setP_kind, Sg.setP_mp]
theorem Sg.setP_rt (σ : Sg) (r : Root) (c : Nat) (x : C) (n : Nat) : (σ.setP r c x).rt n = σ.rt n := by simp [Sg.rt, Sg.setP_isnew]
theorem Sg.setP_inr (σ : Sg) (r : Root) (c : Nat) (x : C) (k j : Nat) : (σ.setP r c x).inr k j = σ.inr k j := by simp [Sg.inr, Sg.setP_kind]

/-- A place gets other content, in a world that is otherwise the same. -/
theorem Core.setPlace {E : Env} {σ : Sg} {tmps : Array Value} {w w' : World} {g g' : Gh} (hc : Core E σ tmps w g) {r : Root} {c : Nat} {t y : T} (hp : PlaceAt σ r c t)
    (hk : Keeps w w' g g' σ.dirty σ.dirty σ.ex) (hs : ∀ r' c', σ.ex r' → ¬ (r' = r ∧ c' = c) → Still w w' g g' r' c')
    (hb : ∀ b k, b < w.heap.size → g.ow b = .box k → g'.ow b = .box k ∧ w'.heap[b]? = w.heap[b]?)
    (hg : ∀ b, b < E.ng → g'.ow b = g.ow b ∧ w'.heap[b]? = w.heap[b]?) (hsz : w.heap.size ≤ w'.heap.size)
    (hy : ∀ u, Rep w g ⟨r, c, []⟩ t u → Rep w' g' ⟨r, c, []⟩ y u) : Core E (σ.upd (.set r c y)) tmps w' g' := by
  show Core E (σ.setP r c (.t y)) tmps w' g'
  have hyC : ∀ u, CRep w g σ.dirty ⟨r, c, []⟩ (.t t) u → CRep w' g' σ.dirty ⟨r, c, []⟩ (.t y) u := by
    intro u h
    cases h with | t h => exact .t (hy u h)
  have hbo : ∀ k, (∃ j, g.ow (g.bl k).1 = .box j) → (∃ o, w.heap[(g.bl k).1]? = some o) → w'.heap[(g.bl k).1]? = w.heap[(g.bl k).1]? := by
    rintro k ⟨j, hj⟩ ⟨o, ho⟩
    exact (hb _ j (lt_of_heap ho) hj).2
  refine Core.step hc (by rw [Sg.setP_dirty]; exact hk) (fun n => ?_) (fun k kd h => ?_) (fun k j => ?_) (fun k es h => ?_) (fun q h => by rw [Sg.setP_ex]; exact h) hg hsz
  · by_cases e : r = .slot n ∨ r = .new n
    · obtain ⟨e1, e2⟩ := hp.slot n e
      have e3 : (σ.setP r c (.t y)).slot n = (σ.slot n).setAt c (.t y) := by
        rcases e with e | e <;> subst e <;> simp [Sg.setP]
      refine .inr ⟨?_, by rw [e3]; exact SV.setAt_flat _ _ _ (hc.flat n), fun q hq => ?_⟩
      · rw [e3, Sg.setP_rt, Sg.setP_dirty, ← e1]
        have := hc.slots n
        rw [← e1] at this
        exact this.setAt (hc.flat n) e2 hk (hc.liveS n) (fun c' hc' => hs r c' hp.ex (fun q => hc' q.2)) hyC
      · rw [e3] at hq
        rw [Sg.setP_ex]
        rcases SV.setAt_roots _ _ _ q hq with h | h
        · exact hc.liveS n q h
        · simp [C.roots] at h
    · refine .inl ⟨?_, by rw [Sg.setP_isnew], rfl, fun c' => hs _ c' (σ.rt_ex n) fun q => e ?_⟩
      · cases r with
        | slot m => have : n ≠ m := fun q => e (.inl (by rw [q])); simp [Sg.setP, this]
        | new m => have : n ≠ m := fun q => e (.inr (by rw [q])); simp [Sg.setP, this]
        | _ => rfl
      · rw [← q.1]
        exact σ.rt_slot n
  · rw [Sg.setP_kind] at h
    have base := hc.objs k kd h
    have hexk : σ.ex (.obj k) := .inr (.inl (by rw [h]; simp))
    have hbl := hk.bl k hexk
    by_cases e : r = .obj k
    · subst e
      obtain ⟨e1, e2⟩ := hp.obj k rfl
      refine .inr ?_
      unfold Sg.inr at e1
      rw [h] at e1
      have ecell : ∀ j, (σ.setP (.obj k) c (.t y)).cell k j = if j = c then .t y else σ.cell k j := by
        intro j
        by_cases hj : j = c
        · subst hj; simp [Sg.setP, Sg.inr, h, e1]
        · simp [Sg.setP, hj]
      cases kd with
      | box m =>
        obtain ⟨cs, el, b1, b2, b3, b4, b5⟩ := base
        obtain ⟨f1, f2⟩ := hb _ k (lt_of_heap b1) b2
        refine ⟨cs, el, by rw [hbl, f2]; exact b1, by rw [hbl]; exact f1, by rw [hbl]; exact b3, by rw [hbl]; exact b4, fun j hj => ?_⟩
        obtain ⟨u, g1, g2⟩ := b5 j hj
        refine ⟨u, by rw [hbl]; exact g1, ?_⟩
        rw [ecell, Sg.setP_dirty]
        by_cases hjc : j = c
        · subst hjc
          rw [if_pos rfl]
          rw [e2] at g2
          exact hyC u g2
        · rw [if_neg hjc]
          exact g2.still hk (hc.liveC k j) (hs _ _ hexk fun q => hjc q.2)
      | virt =>
        obtain ⟨u, g2⟩ := base
        simp only [inrK, beq_iff_eq] at e1
        subst e1
        refine ⟨u, ?_⟩
        rw [ecell, if_pos rfl, Sg.setP_dirty]
        rw [e2] at g2
        exact hyC u g2
    · refine .inl ⟨h, fun j => ⟨?_, hs _ _ hexk fun q => e q.1.symm⟩, fun hj => ?_⟩
      · cases r with
        | obj k' => have : k ≠ k' := fun q => e (by rw [q]); simp [Sg.setP, this]
        | _ => rfl
      · exact hb _ k hj
  · by_cases e : r = .obj k
    · subst e
      by_cases hi : σ.inr k c = true
      · by_cases hj : j = c
        · subst hj
          right
          simp [Sg.setP, hi, C.roots]
        · left; simp [Sg.setP, hj]
      · left; simp [Sg.setP, hi]
    · left
      cases r with
      | obj k' => have : k ≠ k' := fun q => e (by rw [q]); simp [Sg.setP, this]
      | _ => rfl
  · rw [Sg.setP_mp] at h
    exact .inl ⟨h, fun hj => hb _ k hj⟩

theorem Core.take1 {E : Env} {σ : Sg} {tmps : Array Value} {w : World} {g : Gh} (hc : Core E σ tmps w g) {r : Root} {c : Nat} {t x : T} (hp : PlaceIs σ r c t) {p : List Hop} (hx : t.at p = some x) (q : CA) (hq : ¬ σ.ex q.root) :
    Core E (σ.upd (.set r c (t.put p .top))) tmps w (g.reg ⟨r, c, p⟩ q) ∧ ∃ v, Rep w g ⟨r, c, p⟩ x v ∧ Rep w (g.reg ⟨r, c, p⟩ q) q x v := by
  have hne : ∀ r', σ.ex r' → r' ≠ q.root := fun r' h e => hq (e ▸ h)
  have hkeep : Keeps w w g (g.reg ⟨r, c, p⟩ q) σ.dirty σ.dirty σ.ex := ⟨Nat.le_refl _, fun b _ h => ⟨Gh.reg_fz _ _ _ h, rfl⟩,
    fun r' c' h1 h2 => ⟨h2, fun s => Gh.reg_hd _ _ _ fun e => hne _ h1 e.1⟩, fun _ _ => rfl⟩
  refine ⟨hc.setPlace hp.toPlaceAt hkeep (fun r' c' h1 h2 => ?_) (fun b k _ h => ⟨Gh.reg_box _ _ _ h, rfl⟩) (fun b hb => ⟨?_, rfl⟩) (Nat.le_refl _) (fun u hu => ?_), ?_⟩
  · exact Gh.reg_still w g _ _ (fun e => h2 ⟨e.1, e.2⟩) (fun e => hne _ h1 e.1)
  · rw [(hc.glob b hb).1, Gh.reg_other _ _ _ (hc.glob b hb).1]
  · refine Rep.put hu p hx ⟨Nat.le_refl _, fun b _ h => ⟨Gh.reg_fz _ _ _ h, rfl⟩, fun b a' _ ha hn ho => ⟨?_, rfl⟩, fun a' ha _ => Gh.reg_hd _ _ _ fun e => hne _ hp.ex (ha.1.symm.trans e.1)⟩ (fun _ _ => .fro .top)
    rw [CA.go_mk] at hn
    simp only [Gh.reg, ho]
    rw [if_neg hn, if_neg (not_under_of_ne fun e => hne _ hp.ex (ha.1.symm.trans e.1))]
  · obtain ⟨u, hu⟩ := hp.rep hc
    obtain ⟨v, hv, _⟩ := hu.at hx
    rw [CA.go_mk] at hv
    exact ⟨v, hv, hv.reg⟩
end Vx
