import Derived.Test.YtjfpbaknhaikmaaV18
namespace Vx
open Go Classical
set_option linter.unusedSimpArgs false
set_option linter.unusedVariables false

/-! ## What a state says at a location -/
def SameAt (σ τ : Sg) : Loc → Prop
  | .slot n => σ.slot n = τ.slot n ∧ σ.isnew n = τ.isnew n ∧ (∀ c, σ.dirty (.slot n) c = τ.dirty (.slot n) c) ∧ ∀ c, σ.dirty (.new n) c = τ.dirty (.new n) c
  | .cell k c => σ.cell k c = τ.cell k c ∧ σ.dirty (.obj k) c = τ.dirty (.obj k) c
  | .kind k => σ.kind k = τ.kind k
  | .mp k => σ.mp k = τ.mp k
theorem SameAt.refl (σ : Sg) (l : Loc) : SameAt σ σ l := by cases l <;> simp [SameAt]
theorem SameAt.symm {σ τ : Sg} {l : Loc} (h : SameAt σ τ l) : SameAt τ σ l := by
  cases l with
  | slot n => exact ⟨h.1.symm, h.2.1.symm, fun c => (h.2.2.1 c).symm, fun c => (h.2.2.2 c).symm⟩
  | cell k c => exact ⟨h.1.symm, h.2.symm⟩
  | kind k => exact Eq.symm h
  | mp k => exact Eq.symm h
theorem SameAt.trans {σ τ υ : Sg} {l : Loc} (h : SameAt σ τ l) (k : SameAt τ υ l) : SameAt σ υ l := by
  cases l with
  | slot n => exact ⟨h.1.trans k.1, h.2.1.trans k.2.1, fun c => (h.2.2.1 c).trans (k.2.2.1 c), fun c => (h.2.2.2 c).trans (k.2.2.2 c)⟩
  | cell i c => exact ⟨h.1.trans k.1, h.2.trans k.2⟩
  | kind i => exact Eq.trans h k
  | mp i => exact Eq.trans h k
theorem SameAt.ext {σ τ : Sg} (h : ∀ l, SameAt σ τ l) (hr : ∀ c, σ.dirty .ret c = τ.dirty .ret c) : σ = τ := by
  cases σ; cases τ
  congr 1
  · funext n; exact (h (.slot n)).1
  · funext n; exact (h (.slot n)).2.1
  · funext k c; exact (h (.cell k c)).1
  · funext k; exact h (.kind k)
  · funext k; exact h (.mp k)
  · funext r c
    cases r with
    | slot n => exact (h (.slot n)).2.2.1 c
    | new n => exact (h (.slot n)).2.2.2 c
    | obj k => exact (h (.cell k c)).2
    | ret => exact hr c

theorem Rd.same {α : Type} : ∀ (f : Rd α) {σ τ : Sg}, (∀ l ∈ f.log σ, SameAt σ τ l) → f.run τ = f.run σ ∧ f.log τ = f.log σ
  | .ret a, σ, τ, h => ⟨rfl, rfl⟩
  | .slot n f, σ, τ, h => by
    have h0 := h (.slot n) (by simp [Rd.log])
    obtain ⟨h1, h2, h3, h4⟩ := h0
    have hrt : τ.rt n = σ.rt n := by simp [Sg.rt, h2]
    have hd : τ.dirty (τ.rt n) = σ.dirty (σ.rt n) := by
      rw [hrt]
      funext c
      rcases σ.rt_slot n with e | e <;> rw [e]
      · exact (h3 c).symm
      · exact (h4 c).symm
    obtain ⟨e1, e2⟩ := Rd.same (f (σ.slot n) (σ.isnew n) (σ.dirty (σ.rt n))) (σ := σ) (τ := τ) fun l hl => h l (by simp [Rd.log, hl])
    simp only [Rd.run, Rd.log, ← h1, ← h2, hd, e1, e2, and_self]
  | .cell k c f, σ, τ, h => by
    obtain ⟨h1, h2⟩ := h (.cell k c) (by simp [Rd.log])
    obtain ⟨e1, e2⟩ := Rd.same (f (σ.cell k c) (σ.dirty (.obj k) c)) (σ := σ) (τ := τ) fun l hl => h l (by simp [Rd.log, hl])
    simp only [Rd.run, Rd.log, ← h1, ← h2, e1, e2, and_self]
  | .kind k f, σ, τ, h => by
    have h1 : σ.kind k = τ.kind k := h (.kind k) (by simp [Rd.log])
    obtain ⟨e1, e2⟩ := Rd.same (f (σ.kind k)) (σ := σ) (τ := τ) fun l hl => h l (by simp [Rd.log, hl])
    simp only [Rd.run, Rd.log, ← h1, e1, e2, and_self]
  | .mp k f, σ, τ, h => by
    have h1 : σ.mp k = τ.mp k := h (.mp k) (by simp [Rd.log])
    obtain ⟨e1, e2⟩ := Rd.same (f (σ.mp k)) (σ := σ) (τ := τ) fun l hl => h l (by simp [Rd.log, hl])
    simp only [Rd.run, Rd.log, ← h1, e1, e2, and_self]

/-! ## What an update does to the locations -/
def Upd.wr (u : Upd) (l : Loc) : Prop := ∃ w ∈ u.locs, w.covers l = true
theorem covers_self (l : Loc) : l.covers l = true := by simp [Loc.covers]
theorem setP_frame {σ : Sg} {r : Root} {c : Nat} {x : C} {l : Loc} (h : ∀ w ∈ rootLoc r c, w.covers l = false) : SameAt (σ.setP r c x) σ l := by
  cases r with
  | slot n =>
    cases l with
    | slot m =>
      have := h (.slot n) (by simp [rootLoc])
      have hne : m ≠ n := by rintro rfl; simp [covers_self] at this
      exact ⟨by simp [Sg.setP, hne], rfl, fun _ => rfl, fun _ => rfl⟩
    | cell k c => exact ⟨rfl, rfl⟩
    | kind k => rfl
    | mp k => rfl
  | new n =>
    cases l with
    | slot m =>
      have := h (.slot n) (by simp [rootLoc])
      have hne : m ≠ n := by rintro rfl; simp [covers_self] at this
      exact ⟨by simp [Sg.setP, hne], rfl, fun _ => rfl, fun _ => rfl⟩
    | cell k c => exact ⟨rfl, rfl⟩
    | kind k => rfl
    | mp k => rfl
  | obj k =>
    cases l with
    | slot m => exact ⟨rfl, rfl, fun _ => rfl, fun _ => rfl⟩
    | cell i j =>
      have := h (.cell k c) (by simp [rootLoc])
      have hne : ¬ (i = k ∧ j = c) := by rintro ⟨rfl, rfl⟩; simp [covers_self] at this
      refine ⟨?_, rfl⟩
      simp only [Sg.setP]
      rw [if_neg (fun q => hne ⟨q.1, q.2.1⟩)]
    | kind k => rfl
    | mp k => rfl
  | ret => exact SameAt.refl _ _
theorem setP_dep {σ τ : Sg} {r : Root} {c : Nat} {x : C} (h : ∀ l, ((∃ w ∈ rootLoc r c, w.covers l = true) ∨ l ∈ rootDep r) → SameAt σ τ l) : ∀ l, (∃ w ∈ rootLoc r c, w.covers l = true) → SameAt (σ.setP r c x) (τ.setP r c x) l := by
  intro l hl
  have h0 := h l (.inl hl)
  obtain ⟨w, hw, hc⟩ := hl
  cases r with
  | slot n =>
    simp only [rootLoc, List.mem_singleton] at hw
    subst hw
    have : l = .slot n := by
      cases l <;> simp [Loc.covers] at hc
      rw [hc]
    subst this
    obtain ⟨h1, h2, h3, h4⟩ := h0
    exact ⟨by simp [Sg.setP, h1], h2, h3, h4⟩
  | new n =>
    simp only [rootLoc, List.mem_singleton] at hw
    subst hw
    have : l = .slot n := by
      cases l <;> simp [Loc.covers] at hc
      rw [hc]
    subst this
    obtain ⟨h1, h2, h3, h4⟩ := h0
    exact ⟨by simp [Sg.setP, h1], h2, h3, h4⟩
  | obj k =>
    simp only [rootLoc, List.mem_singleton] at hw
    subst hw
    have : l = .cell k c := by
      cases l <;> simp [Loc.covers] at hc
      rw [hc.1, hc.2]
    subst this
    obtain ⟨h1, h2⟩ := h0
    have hk : σ.kind k = τ.kind k := h (.kind k) (.inr (by simp [rootDep]))
    refine ⟨?_, h2⟩
    simp [Sg.setP, Sg.inr, hk, h1]
  | ret => simp [rootLoc] at hw
theorem upd_frame {σ : Sg} {u : Upd} {l : Loc} (h : ¬ u.wr l) : SameAt (σ.upd u) σ l := by
  have h' : ∀ w ∈ u.locs, w.covers l = false := by
    intro w hw
    cases hc : w.covers l with
    | false => rfl
    | true => exact absurd ⟨w, hw, hc⟩ h
  cases u with
  | slot n x =>
    have := h' (.slot n) (by simp [Upd.locs])
    cases l with
    | slot m =>
      have hne : m ≠ n := by rintro rfl; simp [covers_self] at this
      exact ⟨by simp [Sg.upd, hne], by simp [Sg.upd, hne], fun _ => rfl, fun _ => rfl⟩
    | cell k c => exact ⟨rfl, rfl⟩
    | kind k => rfl
    | mp k => rfl
  | hole r c => exact setP_frame h'
  | set r c t => exact setP_frame h'
  | dirtS n c =>
    have := h' (.slot n) (by simp [Upd.locs])
    cases l with
    | slot m =>
      have hne : m ≠ n := by rintro rfl; simp [covers_self] at this
      have e : ∀ c', ¬ (Root.slot m = σ.rt n ∧ c' = c) := by
        rintro c' ⟨e, _⟩
        rcases σ.rt_slot n with q | q <;> rw [q] at e <;> cases e
        exact hne rfl
      have e2 : ∀ c', ¬ (Root.new m = σ.rt n ∧ c' = c) := by
        rintro c' ⟨e, _⟩
        rcases σ.rt_slot n with q | q <;> rw [q] at e <;> cases e
        exact hne rfl
      exact ⟨rfl, rfl, fun c' => by simp only [Sg.upd]; rw [if_neg (e c')], fun c' => by simp only [Sg.upd]; rw [if_neg (e2 c')]⟩
    | cell k j =>
      refine ⟨rfl, ?_⟩
      simp only [Sg.upd]
      rw [if_neg (fun q => σ.rt_ne_obj n k q.1.symm)]
    | kind k => rfl
    | mp k => rfl
  | cell k c x => exact setP_frame (r := .obj k) (c := c) h'
  | dirtC k c =>
    have := h' (.cell k c) (by simp [Upd.locs])
    cases l with
    | slot m => exact ⟨rfl, rfl, fun c' => by simp [Sg.upd], fun c' => by simp [Sg.upd]⟩
    | cell i j =>
      have hne : ¬ (i = k ∧ j = c) := by rintro ⟨rfl, rfl⟩; simp [covers_self] at this
      refine ⟨rfl, ?_⟩
      simp only [Sg.upd]
      rw [if_neg (by rintro ⟨e1, e2⟩; cases e1; exact hne ⟨rfl, e2⟩)]
    | kind k => rfl
    | mp k => rfl
  | box k row =>
    have := h' (.kind k) (by simp [Upd.locs])
    cases l with
    | slot m => exact ⟨rfl, rfl, fun _ => rfl, fun _ => rfl⟩
    | cell i j =>
      have hne : i ≠ k := by rintro rfl; simp [Loc.covers] at this
      exact ⟨by simp [Sg.upd, hne], rfl⟩
    | kind i =>
      have hne : i ≠ k := by rintro rfl; simp [covers_self] at this
      simp [SameAt, Sg.upd, hne]
    | mp k => rfl
  | mp k es =>
    have := h' (.mp k) (by simp [Upd.locs])
    cases l with
    | slot m => exact ⟨rfl, rfl, fun _ => rfl, fun _ => rfl⟩
    | cell i j => exact ⟨rfl, rfl⟩
    | kind i => rfl
    | mp i =>
      have hne : i ≠ k := by rintro rfl; simp [covers_self] at this
      simp [SameAt, Sg.upd, hne]
theorem upd_dep {σ τ : Sg} {u : Upd} (h : ∀ l, (u.wr l ∨ l ∈ u.deps) → SameAt σ τ l) : ∀ l, u.wr l → SameAt (σ.upd u) (τ.upd u) l := by
  intro l hl
  have h0 := h l (.inl hl)
  cases u with
  | slot n x =>
    obtain ⟨w, hw, hc⟩ := hl
    simp only [Upd.locs, List.mem_singleton] at hw
    subst hw
    have : l = .slot n := by
      cases l <;> simp [Loc.covers] at hc
      rw [hc]
    subst this
    obtain ⟨h1, h2, h3, h4⟩ := h0
    exact ⟨by simp [Sg.upd], by simp [Sg.upd], h3, h4⟩
  | hole r c => exact setP_dep h l hl
  | set r c t => exact setP_dep h l hl
  | dirtS n c =>
    obtain ⟨w, hw, hc⟩ := hl
    simp only [Upd.locs, List.mem_singleton] at hw
    subst hw
    have : l = .slot n := by
      cases l <;> simp [Loc.covers] at hc
      rw [hc]
    subst this
    obtain ⟨h1, h2, h3, h4⟩ := h0
    have hrt : τ.rt n = σ.rt n := by simp [Sg.rt, h2]
    exact ⟨h1, h2, fun c' => by simp only [Sg.upd, hrt, h3], fun c' => by simp only [Sg.upd, hrt, h4]⟩
  | cell k c x => exact setP_dep (r := .obj k) (c := c) (x := x) (fun l hl => h l (hl.imp id (by simp [rootDep, Upd.deps]))) l hl
  | dirtC k c =>
    obtain ⟨w, hw, hc⟩ := hl
    simp only [Upd.locs, List.mem_singleton] at hw
    subst hw
    have : l = .cell k c := by
      cases l <;> simp [Loc.covers] at hc
      rw [hc.1, hc.2]
    subst this
    obtain ⟨h1, h2⟩ := h0
    exact ⟨h1, by simp only [Sg.upd, h2]⟩
  | box k row =>
    obtain ⟨w, hw, hc⟩ := hl
    simp only [Upd.locs, List.mem_singleton] at hw
    subst hw
    cases l with
    | slot m => simp [Loc.covers] at hc
    | cell i j =>
      have : i = k := by simp [Loc.covers] at hc; exact hc.symm
      subst this
      exact ⟨by simp [Sg.upd], h0.2⟩
    | kind i =>
      have : i = k := by simp [Loc.covers] at hc; exact hc.symm
      subst this
      simp [SameAt, Sg.upd]
    | mp i => simp [Loc.covers] at hc
  | mp k es =>
    obtain ⟨w, hw, hc⟩ := hl
    simp only [Upd.locs, List.mem_singleton] at hw
    subst hw
    have : l = .mp k := by
      cases l <;> simp [Loc.covers] at hc
      rw [hc]
    subst this
    simp [SameAt, Sg.upd]
theorem upd_ret (σ : Sg) (u : Upd) (c : Nat) : (σ.upd u).dirty .ret c = σ.dirty .ret c := by
  cases u with
  | hole r c' => simp [Sg.upd, Sg.setP_dirty]
  | set r c' t => simp [Sg.upd, Sg.setP_dirty]
  | cell k c' x => simp [Sg.upd, Sg.setP_dirty]
  | dirtS n c' =>
    simp only [Sg.upd]
    rw [if_neg]
    rintro ⟨e, _⟩
    rcases σ.rt_slot n with q | q <;> rw [q] at e <;> cases e
  | dirtC k c' => simp [Sg.upd]
  | _ => rfl

def Wr (us : List Upd) (l : Loc) : Prop := ∃ w ∈ wlocs us, w.covers l = true
theorem mem_wlocs {us : List Upd} {w : Loc} : w ∈ wlocs us ↔ ∃ u ∈ us, w ∈ u.locs := by
  induction us <;> simp_all [wlocs]
theorem mem_dlocs {us : List Upd} {w : Loc} : w ∈ dlocs us ↔ ∃ u ∈ us, w ∈ u.deps := by
  induction us <;> simp_all [dlocs]
theorem wr_cons {u : Upd} {us : List Upd} {l : Loc} : Wr (u :: us) l ↔ u.wr l ∨ Wr us l := by
  simp only [Wr, wlocs, List.mem_append]
  constructor
  · rintro ⟨w, h | h, hc⟩
    · exact .inl ⟨w, h, hc⟩
    · exact .inr ⟨w, h, hc⟩
  · rintro (⟨w, h, hc⟩ | ⟨w, h, hc⟩)
    · exact ⟨w, .inl h, hc⟩
    · exact ⟨w, .inr h, hc⟩
theorem upds_cons (σ : Sg) (u : Upd) (us : List Upd) : σ.upds (u :: us) = (σ.upd u).upds us := rfl
theorem upds_frame : ∀ {us : List Upd} {σ : Sg} {l : Loc}, ¬ Wr us l → SameAt (σ.upds us) σ l
  | [], σ, l, h => SameAt.refl _ _
  | u :: us, σ, l, h => by
    rw [wr_cons] at h
    rw [upds_cons]
    exact (upds_frame (fun q => h (.inr q))).trans (upd_frame fun q => h (.inl q))
theorem upds_dep {X : Loc → Prop} : ∀ {us : List Upd} {σ τ : Sg}, (∀ l, Wr us l → X l) → (∀ l ∈ dlocs us, X l) → (∀ l, X l → SameAt σ τ l) → ∀ l, X l → SameAt (σ.upds us) (τ.upds us) l
  | [], σ, τ, h1, h2, h, l, hl => h l hl
  | u :: us, σ, τ, h1, h2, h, l, hl => by
    rw [upds_cons, upds_cons]
    refine upds_dep (fun l hl => h1 l (wr_cons.2 (.inr hl))) (fun l hl => h2 l (by simp [dlocs, hl])) (fun l hl => ?_) l hl
    by_cases hw : u.wr l
    · exact upd_dep (fun l hl => h l (hl.elim (fun q => h1 l (wr_cons.2 (.inl q))) (fun q => h2 l (by simp [dlocs, q])))) l hw
    · exact ((upd_frame hw).trans (h l hl)).trans (upd_frame hw).symm
theorem upds_ret : ∀ (us : List Upd) (σ : Sg) (c : Nat), (σ.upds us).dirty .ret c = σ.dirty .ret c
  | [], σ, c => rfl
  | u :: us, σ, c => by rw [upds_cons, upds_ret us, upd_ret]
theorem upds_comm {us vs : List Upd} (σ : Sg) (h1 : ∀ l, Wr us l → ¬ Wr vs l) (h2 : ∀ l ∈ dlocs us, ¬ Wr vs l) (h3 : ∀ l ∈ dlocs vs, ¬ Wr us l) : (σ.upds us).upds vs = (σ.upds vs).upds us := by
  refine SameAt.ext (fun l => ?_) fun c => by rw [upds_ret, upds_ret, upds_ret, upds_ret]
  by_cases hu : Wr us l
  · refine (upds_frame (h1 l hu)).trans ?_
    exact upds_dep (X := fun l => Wr us l ∨ l ∈ dlocs us) (fun l h => .inl h) (fun l h => .inr h) (fun l h => (upds_frame (h.elim (h1 l) (h2 l))).symm) l (.inl hu)
  · by_cases hv : Wr vs l
    · refine SameAt.trans ?_ (upds_frame hu).symm
      exact upds_dep (X := fun l => Wr vs l ∨ l ∈ dlocs vs) (fun l h => .inl h) (fun l h => .inr h) (fun l h => upds_frame (h.elim (fun q r => h1 l r q) (h3 l))) l (.inl hv)
    · exact ((upds_frame hv).trans (upds_frame hu)).trans ((upds_frame hu).trans (upds_frame hv)).symm

theorem meets_false {a b : List Loc} (h : meets a b = false) : ∀ w ∈ a, ∀ l ∈ b, w.covers l = false := by
  intro w hw l hl
  simp only [meets, List.any_eq_false] at h
  have := h w hw
  simp only [Bool.not_eq_true, List.any_eq_false] at this
  simpa using this l hl
theorem meets_wr {us : List Upd} {b : List Loc} (h : meets (wlocs us) b = false) : ∀ l ∈ b, ¬ Wr us l := by
  rintro l hl ⟨w, hw, hc⟩
  rw [meets_false h w hw l hl] at hc
  cases hc
theorem covers_two {w w' l : Loc} (h : w.covers l = true) (h' : w'.covers l = true) : w.covers w' = true ∨ w'.covers w = true := by
  cases w <;> cases w' <;> cases l <;> simp_all [Loc.covers]
theorem meets_wrs {us vs : List Upd} (h : meets (wlocs us) (wlocs vs) = false) (h' : meets (wlocs vs) (wlocs us) = false) : ∀ l, Wr us l → ¬ Wr vs l := by
  rintro l ⟨w, hw, hc⟩ ⟨w', hw', hc'⟩
  rcases covers_two hc hc' with q | q
  · rw [meets_false h w hw w' hw'] at q; cases q
  · rw [meets_false h' w' hw' w hw] at q; cases q
end Vx
