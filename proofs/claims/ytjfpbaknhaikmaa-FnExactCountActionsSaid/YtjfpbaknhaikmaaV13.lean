import Derived.Test.YtjfpbaknhaikmaaV12
namespace Vx
open Go Classical
set_option linter.unusedSimpArgs false
set_option linter.unusedVariables false

def CA.apart (a b : CA) : Prop := ¬ a.under b ∧ ¬ b.under a
theorem CA.apart_no {a b x : CA} (h : a.apart b) (h1 : x.under a) (h2 : x.under b) : False := by
  obtain ⟨e1, e2, s, e3⟩ := h1
  obtain ⟨f1, f2, u, f3⟩ := h2
  rw [e3] at f3
  rcases List.append_eq_append_iff.1 f3 with ⟨z, h1, h2⟩ | ⟨z, h1, h2⟩
  · exact h.1 ⟨e1.symm.trans f1, e2.symm.trans f2, z, h2⟩
  · exact h.2 ⟨f1.symm.trans e1, f2.symm.trans e2, z, h2⟩

theorem Rep.reg_other {w : World} {g : Gh} {p q a : CA} {t : T} {v : Value} (h : Rep w g a t v) (hp : a.apart p) (hq : a.apart q) : Rep w (g.reg p q) a t v := by
  refine h.frame (Nat.le_refl _) (fun b _ h => ⟨Gh.reg_fz _ _ _ h, rfl⟩) (fun b a' _ ha ho => ⟨?_, rfl⟩) (fun a' ha => ?_)
  · simp only [Gh.reg, ho]
    rw [if_neg fun e => CA.apart_no hp ha e, if_neg fun e => CA.apart_no hq ha e]
  · show (if _ then _ else _) = _
    rw [if_neg fun e => CA.apart_no hq ha e]
theorem CA.apart_root {a b : CA} (h : a.root ≠ b.root) : a.apart b := ⟨fun e => h e.1, fun e => h e.1.symm⟩

/-- The cells `l'` are those of `l`, with what owned places moved along. -/
inductive TkL (σ : Sg) : List C → List C → List Upd → Prop where
  | nil : TkL σ [] [] []
  | keep {x l l' us} (h : TkL σ l l' us) : TkL σ (x :: l) (x :: l') us
  | take {r c t l l' us} (hp : PlaceIs σ r c t) (ht : t.isOwn = true) (h : TkL σ l l' us) : TkL σ (.ref ⟨r, c, []⟩ :: l) (.t t :: l') (.hole r c :: us)
theorem TkL.length {σ : Sg} {l l' : List C} {us : List Upd} (h : TkL σ l l' us) : l'.length = l.length := by
  induction h <;> simp_all

theorem TkL.append {σ : Sg} {l1 l1' l2 l2' : List C} {us1 us2 : List Upd} (h1 : TkL σ l1 l1' us1) (h2 : TkL σ l2 l2' us2) : TkL σ (l1 ++ l2) (l1' ++ l2') (us1 ++ us2) := by
  induction h1 with
  | nil => exact h2
  | keep h ih => exact .keep ih
  | take hp ht h ih => exact .take hp ht ih

theorem moveL_ok {σ : Sg} : ∀ {l : List C} {f : List C → List Upd → Rd Eff}, ((moveL l f).run σ).ok → ∃ l' us, TkL σ l l' us ∧ (moveL l f).run σ = (f l' us).run σ
  | [], f, h => ⟨[], [], .nil, rfl⟩
  | x :: l, f, h => by
    simp only [moveL] at h ⊢
    have keep : ∀ {x}, ((moveL l fun ys vs => f (x :: ys) ([] ++ vs)).run σ).ok → ∃ l' us, TkL σ (x :: l) l' us ∧ (moveL l fun ys vs => f (x :: ys) ([] ++ vs)).run σ = (f l' us).run σ := by
      intro x h
      obtain ⟨l', us, h1, h2⟩ := moveL_ok h
      exact ⟨_, _, .keep h1, h2⟩
    unfold moveC at h ⊢
    split at h
    · rename_i m c
      obtain ⟨t, e, hp⟩ := place_is h
      rw [e] at h ⊢
      by_cases ht : t.isOwn = true
      · rw [if_pos ht] at h ⊢
        obtain ⟨l', us, h1, h2⟩ := moveL_ok h
        exact ⟨_, _, .take hp ht h1, h2⟩
      · rw [if_neg ht] at h; exact h.elim
    · exact keep h
theorem takeL_ok {σ : Sg} : ∀ {l : List C} {f : List T → List Upd → Rd Eff}, ((takeL l f).run σ).ok → ∃ l' us, TkL σ l (l'.map C.t) us ∧ (takeL l f).run σ = (f l' us).run σ
  | [], f, h => ⟨[], [], .nil, rfl⟩
  | x :: l, f, h => by
    simp only [takeL] at h ⊢
    unfold takeC at h ⊢
    split at h
    · obtain ⟨l', us, h1, h2⟩ := takeL_ok h
      exact ⟨_ :: l', us, .keep h1, h2⟩
    · rename_i r c
      obtain ⟨t, e, hp⟩ := place_is h
      rw [e] at h ⊢
      by_cases ht : t.isOwn = true
      · rw [if_pos ht] at h ⊢
        obtain ⟨l', us, h1, h2⟩ := takeL_ok h
        exact ⟨_ :: l', _, .take hp ht h1, h2⟩
      · rw [if_neg ht] at h; exact h.elim
    · exact h.elim

theorem keysOf_append : ∀ (a b : List Upd), keysOf (a ++ b) = keysOf a ++ keysOf b
  | [], b => rfl
  | u :: a, b => by simp [keysOf, keysOf_append a b]
theorem keysOf_mem {u : Upd} {k : Key} : ∀ {us : List Upd}, u ∈ us → k ∈ u.key → k ∈ keysOf us
  | [], h, _ => by cases h
  | v :: us, h, hk => by
    simp only [keysOf, List.mem_append]
    rcases List.mem_cons.1 h with e | e
    · subst e; exact .inl hk
    · exact .inr (keysOf_mem e hk)
theorem distinct_iff : ∀ (l : List Key), distinct l = true ↔ l.Nodup
  | [] => by simp [distinct]
  | x :: l => by simp [distinct, distinct_iff l, List.nodup_cons]
theorem distinct_left {a b : List Upd} (h : distinct (keysOf (a ++ b)) = true) : distinct (keysOf a) = true := by
  rw [distinct_iff] at *
  rw [keysOf_append] at h
  exact (List.nodup_append.1 h).1

theorem SV.cellAt_setAt_ne {sv : SV} {c c' : Nat} {x y : C} (h : sv.cellAt c' = some x) (hn : c' ≠ c) (hc : ∃ z, sv.cellAt c = some z) : (sv.setAt c y).cellAt c' = some x := by
  obtain ⟨z, hc⟩ := hc
  cases sv with
  | c u =>
    simp only [SV.cellAt] at h hc
    split at h
    · split at hc
      · omega
      · cases hc
    · cases h
  | agg row =>
    simp only [SV.setAt, SV.cellAt] at *
    rw [List.getElem?_set_ne (fun e => hn e.symm)]
    exact h
  | tup l =>
    rw [SV.cellAt] at h hc
    cases hl : l[c / 64 - 1]? with
    | none => rw [hl] at hc; cases hc
    | some z0 =>
      have hlt := lt_of_getElem? hl
      rw [hl] at hc
      by_cases e : c / 64 - 1 = c' / 64 - 1
      · rw [← e, hl] at h
        cases z0 with
        | c u =>
          simp only at h hc
          split at h
          · split at hc
            · omega
            · cases hc
          · cases h
        | agg row =>
          simp only at h hc
          split at h
          · split at hc
            · rename_i h1 h2
              simp only [SV.setAt, hl]
              rw [SV.cellAt, ← e, List.getElem?_set_self hlt]
              simp only
              rw [if_pos h1, List.getElem?_set_ne (by omega)]
              exact h
            · cases hc
          · cases h
        | tup l' => cases h
      · have : ∀ z, ((l.set (c / 64 - 1) z)[c' / 64 - 1]?) = l[c' / 64 - 1]? := fun z => List.getElem?_set_ne e
        cases z0 with
        | c u => simp only [SV.setAt, hl]; rw [SV.cellAt, this]; exact h
        | agg row => simp only [SV.setAt, hl]; rw [SV.cellAt, this]; exact h
        | tup l' => simp only [SV.setAt, hl]; rw [SV.cellAt]; exact h

theorem PlaceIs.hole {σ : Sg} {r r' : Root} {c c' : Nat} {t t' : T} {y : T} (h : PlaceIs σ r c t) (h' : PlaceIs σ r' c' t') (hn : ¬ (r' = r ∧ c' = c)) : PlaceIs (σ.upd (.set r c y)) r' c' t' := by
  show PlaceIs (σ.setP r c (.t y)) r' c' t'
  refine ⟨⟨by rw [Sg.setP_ex]; exact h'.ex, fun n e => ?_, fun k e => ?_, h'.nret⟩, by rw [Sg.setP_dirty]; exact h'.dirty⟩
  · obtain ⟨e1, e2⟩ := h'.slot n e
    refine ⟨by rw [Sg.setP_rt]; exact e1, ?_⟩
    by_cases hr : r = .slot n ∨ r = .new n
    · obtain ⟨f1, f2⟩ := h.slot n hr
      have : (σ.setP r c (.t y)).slot n = (σ.slot n).setAt c (.t y) := by rcases hr with e | e <;> subst e <;> simp [Sg.setP]
      rw [this]
      exact SV.cellAt_setAt_ne e2 (fun q => hn ⟨e1.trans f1.symm, q⟩) ⟨_, f2⟩
    · have : (σ.setP r c (.t y)).slot n = σ.slot n := by
        cases r with
        | slot m => have : n ≠ m := fun q => hr (.inl (by rw [q])); simp [Sg.setP, this]
        | new m => have : n ≠ m := fun q => hr (.inr (by rw [q])); simp [Sg.setP, this]
        | _ => rfl
      rw [this]; exact e2
  · obtain ⟨e1, e2⟩ := h'.obj k e
    refine ⟨by rw [Sg.setP_inr]; exact e1, ?_⟩
    cases r with
    | obj k' =>
      have : ¬ (k = k' ∧ c' = c) := fun q => hn ⟨by rw [e, q.1], q.2⟩
      have : ¬ (k = k' ∧ c' = c ∧ σ.inr k' c = true) := fun q => this ⟨q.1, q.2.1⟩
      simp only [Sg.setP]
      rw [if_neg this]; exact e2
    | _ => exact e2

theorem CRep.keeps {w w' : World} {g g' : Gh} {d d' : Dirt} {S : Root → Prop} {a a' : CA} {x : C} {v : Value} (h : CRep w g d a x v) (hn : x.isOwn = false) (k : Keeps w w' g g' d d' S) (hS : ∀ r ∈ x.roots, S r) : CRep w' g' d' a' x v := by
  have h1 := h.repos (a' := a') hn
  clear h
  induction h1 with
  | t h => exact .t (.fro ((h.isFro fun sz xs e => by subst e; simp [C.isOwn] at hn).frame k.lim k.fz))
  | ref h h1 => exact .ref (fun e => by obtain ⟨k1, k2⟩ := k.ref _ _ (hS _ (by simp [C.roots])) e; rw [h k1]; exact (k2 _).symm) h1
  | @ptr p v h h0 h1 =>
    have hs : S p.root := hS _ (by simp [C.roots])
    exact .ptr (fun e e2 => (h e (k.ref _ _ hs e2).1).still k hs (fun _ => e2)) (fun e => (h0 e).still k hs (fun n => absurd e n)) h1
  | fp vs hh ho hcell hrec =>
    obtain ⟨e1, e2⟩ := k.fz _ (lt_of_heap hh) ho
    exact .fp vs (e2.trans hh) e1 hcell fun j x hj => (hrec j x hj).frame k.lim k.fz
  | clo vs hn' h ih => exact .clo vs hn' fun j x hj => ih j x hj (hn' x (List.mem_of_getElem? hj)) fun r hr => hS r (by simp only [C.roots]; exact C.mem_rootsL.2 ⟨x, List.mem_of_getElem? hj, hr⟩)
  | mp h => exact .mp (by rw [k.bl _ (hS _ (by simp [C.roots]))]; exact h)

theorem Keeps.trans {w w1 w2 : World} {g g1 g2 : Gh} {d d1 d2 : Dirt} {S : Root → Prop} (hs : w.heap.size ≤ w1.heap.size) (h : Keeps w w1 g g1 d d1 S) (k : Keeps w1 w2 g1 g2 d1 d2 S) : Keeps w w2 g g2 d d2 S := by
  refine ⟨Nat.le_trans h.lim k.lim, fun b hb ho => ?_, fun r c hr hd => ?_, fun j hj => (k.bl j hj).trans (h.bl j hj)⟩
  · obtain ⟨e1, e2⟩ := h.fz b hb ho
    obtain ⟨f1, f2⟩ := k.fz b (Nat.lt_of_lt_of_le hb hs) e1
    exact ⟨f1, f2.trans e2⟩
  · obtain ⟨e1, e2⟩ := k.ref r c hr hd
    obtain ⟨f1, f2⟩ := h.ref r c hr e1
    exact ⟨f1, fun p => (e2 p).trans (f2 p)⟩

/-- What moves into unexposed places. -/
structure Took (E : Env) (tmps : Array Value) (w : World) (σ σ' : Sg) (g g' : Gh) (q : Nat → CA) (n : Nat) : Prop where
  core : Core E σ' tmps w g'
  move : Move w g w g'
  keeps : Keeps w w g g' σ.dirty σ.dirty σ.ex
  other : ∀ a t v, Rep w g a t v → ¬ σ.ex a.root → (∀ j, j < n → a.apart (q j)) → Rep w g' a t v
  isnew : σ'.isnew = σ.isnew
  ex : σ'.ex = σ.ex
  dirty : σ'.dirty = σ.dirty
  kind : σ'.kind = σ.kind
  mp : σ'.mp = σ.mp

theorem TkL.core {E : Env} {tmps : Array Value} {w : World} {σ : Sg} {l l' : List C} {us : List Upd} (h : TkL σ l l' us) : ∀ (τ : Sg) (g : Gh), Core E τ tmps w g → τ.dirty = σ.dirty → τ.ex = σ.ex →
    (∀ r c t, Upd.hole r c ∈ us → PlaceIs σ r c t → PlaceIs τ r c t) → distinct (keysOf us) = true →
    ∀ (q : Nat → CA) (vs : Nat → Value), (∀ j, ¬ σ.ex (q j).root) → (∀ i j, i < j → j < l.length → (q i).apart (q j)) →
    (∀ j x, l[j]? = some x → (∃ a, CRep w g σ.dirty a x (vs j)) ∧ x.isOwn = false ∧ ∀ r ∈ x.roots, σ.ex r) →
    ∃ g', Took E tmps w τ (τ.upds us) g g' q l.length ∧ ∀ j x, l'[j]? = some x → CRep w g' σ.dirty (q j) x (vs j) := by
  induction h with
  | nil =>
    intro τ g hc hd hx _ _ q vs _ _ _
    exact ⟨g, ⟨hc, Move.refl _ _, Keeps.refl _ _ _ _, fun a t v h _ _ => h, rfl, rfl, rfl, rfl, rfl⟩, fun j x hj => by simp at hj⟩
  | @keep x l l' us h ih =>
    intro τ g hc hd hx hp hdi q vs hq hap hl
    obtain ⟨g', ht, hr⟩ := ih τ g hc hd hx hp hdi (fun j => q (j + 1)) (fun j => vs (j + 1)) (fun j => hq _) (fun i j h1 h2 => hap _ _ (by omega) (by simpa using h2)) (fun j x hj => hl (j + 1) x (by simpa using hj))
    refine ⟨g', { ht with other := fun a t v hr ha hn => ht.other a t v hr ha fun j hj => hn (j + 1) (by simpa using hj) }, fun j y hj => ?_⟩
    cases j with
    | zero =>
      simp at hj
      subst hj
      obtain ⟨⟨a, h1⟩, h2, h3⟩ := hl 0 x rfl
      exact h1.keeps h2 (by rw [← hd]; exact ht.keeps) (fun r hr => by rw [hx]; exact h3 r hr)
    | succ j => exact hr j y (by simpa using hj)
  | @take r c t l l' us hp ht h ih =>
    intro τ g hc hd hx hpl hdi q vs hq hap hl
    have hpτ := hpl r c t (by simp) hp
    rw [distinct_iff] at hdi
    simp only [keysOf, Upd.key, List.singleton_append, List.nodup_cons] at hdi
    obtain ⟨hd1, hd2⟩ := hdi
    obtain ⟨hc1, v, hv, hv'⟩ := hc.take1 hpτ (p := []) (x := t) rfl (q 0) (by rw [hx]; exact hq 0)
    have hout : ∀ (r' : Root) (c' : Nat), τ.ex r' → r' ≠ (q 0).root := fun r' c' h1 e => hq 0 (by rw [← hx, ← e]; exact h1)
    have hk1 : Keeps w w g (g.reg ⟨r, c, []⟩ (q 0)) τ.dirty τ.dirty τ.ex := ⟨Nat.le_refl _, fun b _ h => ⟨Gh.reg_fz _ _ _ h, rfl⟩,
      fun r' c' h1 h2 => ⟨h2, fun s => Gh.reg_hd _ _ _ fun e => hout r' c' h1 e.1⟩, fun _ _ => rfl⟩
    have hex1 : (τ.upd (.set r c (t.put [] .top))).ex = τ.ex := Sg.setP_ex _ _ _ _
    have hdi1 : (τ.upd (.set r c (t.put [] .top))).dirty = τ.dirty := Sg.setP_dirty _ _ _ _
    obtain ⟨g', ht', hr⟩ := ih (τ.upd (.set r c (t.put [] .top))) _ hc1 (hdi1.trans hd) (hex1.trans hx) (fun r' c' t' hm hp' => hpτ.hole (hpl r' c' t' (by simp [hm]) hp') (by
        rintro ⟨rfl, rfl⟩
        exact hd1 (keysOf_mem hm (by simp [Upd.key])))) ((distinct_iff _).2 hd2) (fun j => q (j + 1)) (fun j => vs (j + 1)) (fun j => hq _) (fun i j h1 h2 => hap _ _ (by omega) (by simpa using h2)) (fun j x hj => by
        obtain ⟨⟨a, h1⟩, h2, h3⟩ := hl (j + 1) x (by simpa using hj)
        exact ⟨⟨a, h1.keeps h2 (by rw [← hd]; exact hk1) (fun r hr => by rw [hx]; exact h3 r hr)⟩, h2, h3⟩)
    refine ⟨g', ⟨ht'.core, (Gh.reg_move w g _ _).trans ht'.move, ?_, fun a t' v' hr' ha hn => ?_, ht'.isnew.trans (Sg.setP_isnew _ _ _ _), ht'.ex.trans hex1, ht'.dirty.trans hdi1, ht'.kind.trans (Sg.setP_kind _ _ _ _), ht'.mp.trans (Sg.setP_mp _ _ _ _)⟩, fun j y hj => ?_⟩
    · refine Keeps.trans (Nat.le_refl _) hk1 ?_
      have := ht'.keeps
      rw [hex1, hdi1] at this
      exact this
    · refine ht'.other a t' v' (hr'.reg_other (CA.apart_root (fun e => ha (by rw [e]; exact hpτ.ex))) (hn 0 (by simp))) (by rw [hex1]; exact ha) fun j hj => hn (j + 1) (by simpa using hj)
    · cases j with
      | zero =>
        simp at hj
        subst hj
        obtain ⟨⟨a, h1⟩, h2, h3⟩ := hl 0 _ rfl
        have e1 : vs 0 = g.hd ⟨r, c, []⟩ := by
          cases h1 with | ref h _ => exact h hp.dirty
        have e2 : v = g.hd ⟨r, c, []⟩ := by
          unfold T.isOwn at ht
          split at ht
          · exact hv.own_hd
          · cases ht
        rw [e1, ← e2]
        exact .t (ht'.other _ _ _ hv' (by rw [hex1, hx]; exact hq 0) fun j hj => hap 0 (j + 1) (by omega) (by simpa using hj))
      | succ j => exact hr j y (by simpa using hj)
end Vx
