import Derived.Test.YtjfpbaknhaikmaaV4
namespace Vx
open Go Classical

/-! ## Renaming the places below `p` to places below `q` -/
noncomputable def reb (p q a : CA) : CA := ⟨q.root, q.c, a.path.take (a.path.length - p.path.length) ++ q.path⟩
theorem reb_app {p q a : CA} {s : List Hop} (h : a.path = s ++ p.path) : reb p q a = ⟨q.root, q.c, s ++ q.path⟩ := by
  unfold reb
  rw [h]
  simp
theorem reb_self (p q : CA) : reb p q p = q := by
  rw [reb_app (s := []) rfl]
  rfl
theorem reb_under (p q a : CA) : (reb p q a).under q := ⟨rfl, rfl, _, rfl⟩
theorem reb_reb {p q a : CA} (h : a.under p) : reb q p (reb p q a) = a := by
  obtain ⟨h1, h2, s, h3⟩ := h
  rw [reb_app (q := q) h3, reb_app (s := s) rfl]
  cases a
  simp_all
theorem reb_hop {p q a : CA} (h : a.under p) (x : Hop) : reb p q (a.hop x) = (reb p q a).hop x := by
  obtain ⟨_, _, s, h3⟩ := h
  rw [reb_app (q := q) h3, reb_app (s := x :: s) (by simp [CA.hop, h3])]
  rfl
noncomputable def Gh.reg (g : Gh) (p q : CA) : Gh :=
  { g with
    ow := fun b => match g.ow b with
      | .own a => if a.under p then .own (reb p q a) else if a.under q then .other else .own a
      | t => t
    hd := fun a => if a.under q then g.hd (reb q p a) else g.hd a }

theorem Rep.reg {w : World} {g : Gh} {p q : CA} {t : T} {v : Value} (h : Rep w g p t v) : Rep w (g.reg p q) q t v := by
  have := Rep.map (w' := w) (g' := g.reg p q) (reb p q) h (Nat.le_refl _) (fun a' ha s => reb_hop ha s)
    (fun b _ hb => ⟨by simp [Gh.reg, hb], rfl⟩) (fun b a' _ ha hb => ⟨by simp [Gh.reg, hb, ha], rfl⟩)
    (fun a' ha => by
      show (if (reb p q a').under q then g.hd (reb q p (reb p q a')) else g.hd (reb p q a')) = g.hd a'
      rw [if_pos (reb_under _ _ _), reb_reb ha])
  rw [reb_self] at this
  exact this

theorem not_under_of_ne {a p : CA} (h : ¬ (a.root = p.root ∧ a.c = p.c)) : ¬ a.under p := fun ⟨h1, h2, _⟩ => h ⟨h1, h2⟩
theorem Gh.reg_still (w : World) (g : Gh) (p q : CA) {r : Root} {c : Nat} (hp : ¬ (r = p.root ∧ c = p.c)) (hq : ¬ (r = q.root ∧ c = q.c)) : Still w w g (g.reg p q) r c := by
  refine ⟨fun b s _ ho => ⟨?_, rfl⟩, fun s => ?_⟩
  · simp only [Gh.reg, ho]
    rw [if_neg (not_under_of_ne (a := ⟨r, c, s⟩) hp), if_neg (not_under_of_ne (a := ⟨r, c, s⟩) hq)]
  · show (if _ then _ else _) = _
    rw [if_neg (not_under_of_ne (a := ⟨r, c, s⟩) hq)]
theorem Gh.reg_fz (g : Gh) (p q : CA) {b : Nat} (h : g.ow b = .frozen) : (g.reg p q).ow b = .frozen := by simp [Gh.reg, h]
theorem Gh.reg_other (g : Gh) (p q : CA) {b : Nat} (h : g.ow b = .other) : (g.reg p q).ow b = .other := by simp [Gh.reg, h]
theorem Gh.reg_box (g : Gh) (p q : CA) {b k : Nat} (h : g.ow b = .box k) : (g.reg p q).ow b = .box k := by simp [Gh.reg, h]
theorem Gh.reg_hd (g : Gh) (p q : CA) {a : CA} (h : ¬ (a.root = q.root ∧ a.c = q.c)) : (g.reg p q).hd a = g.hd a := by
  show (if _ then _ else _) = _
  rw [if_neg (not_under_of_ne h)]
theorem Gh.reg_move (w : World) (g : Gh) (p q : CA) : Move w g w (g.reg p q) :=
  ⟨Nat.le_refl _, rfl, fun b _ h => ⟨by rcases h with h | h <;> simp [Gh.reg, h], rfl⟩, fun _ _ => rfl,
    fun b k _ _ h => ⟨Gh.reg_box g p q h, fun cs _ _ hh => ⟨cs, hh, rfl, fun _ _ => rfl⟩⟩, rfl, rfl, rfl⟩

/-! ## From one state to the next -/
theorem Core.step {E : Env} {σ σ' : Sg} {tmps tmps' : Array Value} {w w' : World} {g g' : Gh} (hc : Core E σ tmps w g)
    (hk : Keeps w w' g g' σ.dirty σ'.dirty σ.ex)
    (hs : ∀ n, (σ'.slot n = σ.slot n ∧ σ'.isnew n = σ.isnew n ∧ tmps'.getD n undef = tmps.getD n undef ∧ ∀ c, Still w w' g g' (σ.rt n) c) ∨
      (SVRep w' g' σ'.dirty (σ'.rt n) 0 (σ'.slot n) (tmps'.getD n undef) ∧ (σ'.slot n).flat = true ∧ ∀ r ∈ (σ'.slot n).roots, σ'.ex r))
    (ho : ∀ k kd, σ'.kind k = some kd → (σ.kind k = some kd ∧ (∀ c, σ'.cell k c = σ.cell k c ∧ Still w w' g g' (.obj k) c) ∧
      ((g.bl k).1 < w.heap.size → g.ow (g.bl k).1 = .box k → g'.ow (g.bl k).1 = .box k ∧ w'.heap[(g.bl k).1]? = w.heap[(g.bl k).1]?)) ∨ ObjRep w' g' σ' k kd)
    (hl : ∀ k c, σ'.cell k c = σ.cell k c ∨ ∀ r ∈ (σ'.cell k c).roots, σ'.ex r)
    (hm : ∀ k es, σ'.mp k = some es → (σ.mp k = some es ∧ ((g.bl k).1 < w.heap.size → g.ow (g.bl k).1 = .box k → g'.ow (g.bl k).1 = .box k ∧ w'.heap[(g.bl k).1]? = w.heap[(g.bl k).1]?)) ∨ MapRep w' g' k es)
    (hex : ∀ r, σ.ex r → σ'.ex r)
    (hg : ∀ b, b < E.ng → g'.ow b = g.ow b ∧ w'.heap[b]? = w.heap[b]?) (hsz : w.heap.size ≤ w'.heap.size) : Core E σ' tmps' w' g' := by
  refine ⟨fun n => ?_, fun n => ?_, fun n => ?_, fun k c => ?_, fun k kd h => ?_, fun k es h => ?_, fun b hb => ?_, Nat.le_trans hc.size hsz⟩
  · rcases hs n with ⟨h1, h2, h3, h4⟩ | h
    · have e : σ'.rt n = σ.rt n := by simp [Sg.rt, h2]
      rw [h1, h3, e]
      exact (hc.slots n).still hk (hc.liveS n) h4
    · exact h.1
  · rcases hs n with ⟨h1, _⟩ | h
    · rw [h1]; exact hc.flat n
    · exact h.2.1
  · rcases hs n with ⟨h1, _⟩ | h
    · rw [h1]; exact fun r hr => hex r (hc.liveS n r hr)
    · exact h.2.2
  · rcases hl k c with h1 | h
    · rw [h1]; exact fun r hr => hex r (hc.liveC k c r hr)
    · exact h
  · rcases ho k kd h with ⟨h1, h2, h34⟩ | h
    · have hex : σ.ex (.obj k) := .inr (.inl (by rw [h1]; simp))
      have hbl := hk.bl k hex
      have base := hc.objs k kd h1
      cases kd with
      | box m =>
        obtain ⟨cs, el, e1, e2, e3, e4, e5⟩ := base
        obtain ⟨h4, h3⟩ := h34 (lt_of_heap e1) e2
        refine ⟨cs, el, by rw [hbl, h3]; exact e1, by rw [hbl]; exact h4, by rw [hbl]; exact e3, by rw [hbl]; exact e4, fun c hcm => ?_⟩
        obtain ⟨u, f1, f2⟩ := e5 c hcm
        refine ⟨u, by rw [hbl]; exact f1, ?_⟩
        rw [(h2 c).1]
        exact f2.still hk (hc.liveC k c) (h2 c).2
      | virt =>
        obtain ⟨u, f2⟩ := base
        refine ⟨u, ?_⟩
        rw [(h2 0).1]
        exact f2.still hk (hc.liveC k 0) (h2 0).2
    · exact h
  · rcases hm k es h with ⟨h1, h23⟩ | h
    · have hex : σ.ex (.obj k) := .inr (.inr (by rw [h1]; simp))
      have hbl := hk.bl k hex
      obtain ⟨l, ck, e1, e2, e3, e4⟩ := hc.maps k es h1
      obtain ⟨h3, h2⟩ := h23 (lt_of_heap e1) e2
      refine ⟨l, ck, by rw [hbl, h2]; exact e1, by rw [hbl]; exact h3, e3, fun i e x a1 a2 => ?_⟩
      obtain ⟨b1, b2⟩ := e4 i e x a1 a2
      exact ⟨b1.frame hk.lim hk.fz, b2.frame hk.lim hk.fz⟩
    · exact h
  · obtain ⟨h1, h2⟩ := hg b hb
    obtain ⟨e1, e2⟩ := hc.glob b hb
    exact ⟨h1.trans e1, h2.trans e2⟩

/-- Nothing in memory changes, and no ghost. -/
theorem Keeps.refl (w : World) (g : Gh) (d : Dirt) (S : Root → Prop) : Keeps w w g g d d S :=
  ⟨Nat.le_refl _, fun _ _ h => ⟨h, rfl⟩, fun _ _ _ h => ⟨h, fun _ => rfl⟩, fun _ _ => rfl⟩
theorem Still.refl (w : World) (g : Gh) (r : Root) (c : Nat) : Still w w g g r c := ⟨fun _ _ _ h => ⟨h, rfl⟩, fun _ => rfl⟩

/-- A slot is written anew with something that owns nothing of its own place. -/
theorem Core.put {E : Env} {σ : Sg} {tmps : Array Value} {w : World} {g : Gh} (hc : Core E σ tmps w g) {d : Nat} {x : SV} {v : Value} (hn : σ.isnew d = false)
    (hx : SVRep w g σ.dirty (.new d) 0 x v) (hr : ∀ r ∈ x.roots, σ.ex r) (hf : x.flat = true) (hd : d < tmps.size ∨ v = undef) : Core E (σ.upd (.slot d x)) (tmps.setIfInBounds d v) w g := by
  have hex : ∀ r, σ.ex r → (σ.upd (.slot d x)).ex r := by
    intro r h
    cases r with
    | slot n => trivial
    | new n => by_cases e : n = d <;> simp_all [Sg.ex, Sg.upd]
    | obj k => exact h
    | ret => trivial
  refine Core.step hc (Keeps.refl _ _ _ _) (fun n => ?_) (fun k kd h => .inl ⟨h, fun c => ⟨rfl, Still.refl _ _ _ _⟩, fun _ h => ⟨h, rfl⟩⟩) (fun k c => .inl rfl)
    (fun k es h => .inl ⟨h, fun _ h => ⟨h, rfl⟩⟩) hex (fun b _ => ⟨rfl, rfl⟩) (Nat.le_refl _)
  by_cases e : n = d
  · subst e
    refine .inr ⟨?_, by simpa [Sg.upd] using hf, ?_⟩
    · have : (tmps.setIfInBounds n v).getD n undef = v := by
        rcases hd with h | h
        · simp [Array.getD, h]
        · subst h
          by_cases h : n < tmps.size <;> simp [Array.getD, h]
      rw [this]
      simpa [Sg.upd, Sg.rt, rt] using hx
    · intro r h
      apply hex
      exact hr r (by simpa [Sg.upd] using h)
  · refine .inl ⟨by simp [Sg.upd, e], by simp [Sg.upd, e], ?_, fun c => Still.refl _ _ _ _⟩
    have : n ≠ d := e
    simp only [Array.getD_eq_getD_getElem?]
    rw [Array.getElem?_setIfInBounds_ne (fun h => e h.symm)]
end Vx
