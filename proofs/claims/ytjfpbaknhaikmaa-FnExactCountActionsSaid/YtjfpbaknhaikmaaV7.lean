import Derived.Test.YtjfpbaknhaikmaaV6
namespace Vx
open Go Classical

/-! ## Places -/
theorem place_ok {σ : Sg} {r : Root} {c : Nat} {f : T → Rd Eff} (h : ((place r c f).run σ).ok) : ∃ t, (place r c f).run σ = (f t).run σ ∧ σ.dirty r c = false ∧ σ.ex r ∧
    (∀ n, (r = .slot n ∨ r = .new n) → r = σ.rt n ∧ (σ.slot n).cellAt c = some (.t t)) ∧ (∀ k, r = .obj k → σ.inr k c = true ∧ σ.cell k c = .t t) ∧ r ≠ .ret := by
  cases r with
  | slot n =>
    simp only [place, Rd.run] at h ⊢
    cases hn : σ.isnew n with
    | true => simp [hn] at h; exact h.elim
    | false =>
      have hrt : σ.rt n = .slot n := by simp [Sg.rt, Vx.rt, hn]
      rw [hn, hrt] at h
      rw [hrt]
      cases hd : σ.dirty (.slot n) c with
      | true => simp [hd] at h; exact h.elim
      | false =>
        simp only [hd, Bool.or_self, Bool.false_eq_true, if_false] at h ⊢
        cases hx : (σ.slot n).cellAt c with
        | none => simp only [hx] at h; exact h.elim
        | some x =>
          cases x with
          | t t => simp only [hx] at h ⊢; exact ⟨t, rfl, trivial, trivial, fun m hm => (by rcases hm with e | e <;> cases e; exact ⟨hrt.symm, hx⟩), fun k e => (by cases e), (by intro e; cases e)⟩
          | _ => simp only [hx] at h; exact h.elim
  | new n =>
    simp only [place, Rd.run] at h ⊢
    cases hn : σ.isnew n with
    | false => simp [hn] at h; exact h.elim
    | true =>
      have hrt : σ.rt n = .new n := by simp [Sg.rt, Vx.rt, hn]
      rw [hn, hrt] at h
      rw [hrt]
      cases hd : σ.dirty (.new n) c with
      | true => simp [hd] at h; exact h.elim
      | false =>
        simp only [hd, Bool.or_self, Bool.not_true, Bool.false_eq_true, if_false] at h ⊢
        cases hx : (σ.slot n).cellAt c with
        | none => simp only [hx] at h; exact h.elim
        | some x =>
          cases x with
          | t t => simp only [hx] at h ⊢; exact ⟨t, rfl, trivial, hn, fun m hm => (by rcases hm with e | e <;> cases e; exact ⟨hrt.symm, hx⟩), fun k e => (by cases e), (by intro e; cases e)⟩
          | _ => simp only [hx] at h; exact h.elim
  | obj k =>
    simp only [place, Rd.run] at h ⊢
    cases hi : inrK (σ.kind k) c with
    | false => simp [hi] at h; exact h.elim
    | true =>
      simp only [hi, if_true, Rd.run] at h ⊢
      cases hd : σ.dirty (.obj k) c with
      | true => simp [hd] at h; exact h.elim
      | false =>
        simp only [hd, Bool.false_eq_true, if_false] at h ⊢
        have hex : σ.ex (.obj k) := .inr (.inl (by intro e; rw [e] at hi; cases hi))
        cases hx : σ.cell k c with
        | t t => simp only [hx] at h ⊢; exact ⟨t, rfl, trivial, hex, fun n hn => (by rcases hn with e | e <;> cases e), fun j e => (by cases e; exact ⟨hi, hx⟩), (by intro e; cases e)⟩
        | _ => simp only [hx] at h; exact h.elim
  | ret => exact h.elim

theorem SVRep.cellAt {w : World} {g : Gh} {d : Dirt} {r : Root} {sv : SV} {v : Value} {c : Nat} {x : C} (h : SVRep w g d r 0 sv v) (hx : sv.cellAt c = some x) : ∃ u, CRep w g d ⟨r, c, []⟩ x u := by
  cases h with
  | c h =>
    simp only [SV.cellAt] at hx
    split at hx
    · cases hx
      rename_i e
      subst e
      exact ⟨v, h⟩
    · cases hx
  | agg vs h =>
    simp only [SV.cellAt] at hx
    have := h c x hx
    simp only [Nat.zero_add] at this
    exact ⟨_, this⟩
  | tup vs h =>
    rename_i l
    simp only [SV.cellAt] at hx
    split at hx
    · rename_i y hy
      split at hx
      · rename_i e
        cases hx
        have := h _ _ hy
        cases this with
        | c h =>
          rw [show 0 + 64 * (c / 64 - 1 + 1) = c by omega] at h
          exact ⟨_, h⟩
      · cases hx
    · rename_i row hy
      split at hx
      · rename_i e
        have := h _ _ hy
        generalize vs (c / 64 - 1) = u at this
        cases this with
        | agg us h =>
          have := h _ _ hx
          rw [show 0 + 64 * (c / 64 - 1 + 1) + c % 64 = c by omega] at this
          exact ⟨_, this⟩
      · cases hx
    · cases hx
theorem Core.place {E : Env} {σ : Sg} {tmps : Array Value} {w : World} {g : Gh} (hc : Core E σ tmps w g) {r : Root} {c : Nat} {t : T}
    (h1 : ∀ n, (r = .slot n ∨ r = .new n) → r = σ.rt n ∧ (σ.slot n).cellAt c = some (.t t)) (h2 : ∀ k, r = .obj k → σ.inr k c = true ∧ σ.cell k c = .t t) (h3 : r ≠ .ret) :
    ∃ v, Rep w g ⟨r, c, []⟩ t v := by
  cases r with
  | slot n =>
    obtain ⟨e1, e2⟩ := h1 n (.inl rfl)
    have := hc.slots n
    rw [← e1] at this
    obtain ⟨u, hu⟩ := this.cellAt e2
    cases hu with | t h => exact ⟨u, h⟩
  | new n =>
    obtain ⟨e1, e2⟩ := h1 n (.inr rfl)
    have := hc.slots n
    rw [← e1] at this
    obtain ⟨u, hu⟩ := this.cellAt e2
    cases hu with | t h => exact ⟨u, h⟩
  | obj k =>
    obtain ⟨e1, e2⟩ := h2 k rfl
    unfold Sg.inr at e1
    cases hk : σ.kind k with
    | none => rw [hk] at e1; cases e1
    | some kd =>
      have base := hc.objs k kd hk
      rw [hk] at e1
      cases kd with
      | box m =>
        simp only [inrK, decide_eq_true_eq] at e1
        obtain ⟨cs, el, _, _, _, _, e5⟩ := base
        obtain ⟨u, _, hu⟩ := e5 c e1
        rw [e2] at hu
        cases hu with | t h => exact ⟨u, h⟩
      | virt =>
        simp only [inrK, beq_iff_eq] at e1
        subst e1
        obtain ⟨u, hu⟩ := base
        rw [e2] at hu
        cases hu with | t h => exact ⟨u, h⟩
  | ret => exact absurd rfl h3

theorem deref_ok {σ : Sg} {a : CA} {f : T → T → Rd Eff} (h : ((deref a f).run σ).ok) : ∃ t x, (deref a f).run σ = (f t x).run σ ∧ t.at a.path = some x ∧ σ.dirty a.root a.c = false ∧ σ.ex a.root ∧
    (∀ n, (a.root = .slot n ∨ a.root = .new n) → a.root = σ.rt n ∧ (σ.slot n).cellAt a.c = some (.t t)) ∧ (∀ k, a.root = .obj k → σ.inr k a.c = true ∧ σ.cell k a.c = .t t) ∧ a.root ≠ .ret := by
  unfold deref at h ⊢
  obtain ⟨t, e, rest⟩ := place_ok h
  rw [e] at h ⊢
  cases hx : t.at a.path with
  | none => simp only [hx] at h; exact h.elim
  | some x => exact ⟨t, x, by simp only, hx, rest⟩
theorem Core.deref {E : Env} {σ : Sg} {tmps : Array Value} {w : World} {g : Gh} (hc : Core E σ tmps w g) {a : CA} {t x : T} (hx : t.at a.path = some x)
    (h1 : ∀ n, (a.root = .slot n ∨ a.root = .new n) → a.root = σ.rt n ∧ (σ.slot n).cellAt a.c = some (.t t)) (h2 : ∀ k, a.root = .obj k → σ.inr k a.c = true ∧ σ.cell k a.c = .t t) (h3 : a.root ≠ .ret) :
    ∃ v, Rep w g a x v := by
  obtain ⟨v, hv⟩ := hc.place h1 h2 h3
  obtain ⟨u, hu, _⟩ := hv.at hx
  refine ⟨u, ?_⟩
  have : (⟨a.root, a.c, []⟩ : CA).go a.path = a := by cases a; simp [CA.go]
  rw [this] at hu
  exact hu
end Vx
