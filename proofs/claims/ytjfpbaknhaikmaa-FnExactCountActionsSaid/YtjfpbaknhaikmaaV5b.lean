import Derived.Test.YtjfpbaknhaikmaaV5
namespace Vx
open Go Classical
set_option linter.unusedSimpArgs false
set_option linter.unusedVariables false

theorem CRep.repos {w : World} {g : Gh} {d : Dirt} {a a' : CA} {x : C} {v : Value} (h : CRep w g d a x v) (hn : x.isOwn = false) : CRep w g d a' x v := by
  induction h with
  | t h => exact .t (.fro (h.isFro fun sz xs e => by subst e; simp [C.isOwn] at hn))
  | ref h h1 => exact .ref h h1
  | ptr h h0 h1 => exact .ptr h h0 h1
  | fp vs hh ho hcell hrec => exact .fp vs hh ho hcell hrec
  | clo vs hn' h ih => exact .clo vs hn' fun j x hj => ih j x hj (hn' x (List.mem_of_getElem? hj))
  | mp h => exact .mp h
theorem Rep.own_hd {w : World} {g : Gh} {a : CA} {sz : Nat} {xs : List (List T)} {v : Value} (h : Rep w g a (.sl true sz xs) v) : v = g.hd a := by
  cases h with
  | fro h => exact h.noOwn.elim
  | onil hd => exact hd.symm
  | own vs hd => exact hd.symm
theorem CRep.alias {w : World} {g : Gh} {d : Dirt} {a : CA} {x : C} {v : Value} (h : CRep w g d a x v) (a' : CA) : CRep w g d a' (x.alias a) v := by
  unfold C.alias
  split
  · cases h with | t h => exact .ref (fun _ => h.own_hd) (by cases h <;> first | rfl | (rename_i h; exact h.noOwn.elim))
  · rename_i hx
    refine h.repos ?_
    unfold C.isOwn
    split
    · exact absurd rfl (hx _ _)
    · rfl
theorem C.alias_isOwn (x : C) (a : CA) : (x.alias a).isOwn = false := by
  unfold C.alias
  split
  · rfl
  · rename_i hx
    unfold C.isOwn
    split
    · exact absurd rfl (hx _ _)
    · rfl
theorem aliasFrom_get {r : Root} : ∀ {l : List C} {n j : Nat} {x : C}, (aliasFrom r n l)[j]? = some x → ∃ y, l[j]? = some y ∧ x = y.alias ⟨r, n + j, []⟩
  | [], n, j, x, h => by simp [aliasFrom] at h
  | y :: l, n, 0, x, h => by simp [aliasFrom] at h; exact ⟨y, rfl, h.symm⟩
  | y :: l, n, j + 1, x, h => by
    simp only [aliasFrom, List.getElem?_cons_succ] at h ⊢
    obtain ⟨z, h1, h2⟩ := aliasFrom_get h
    exact ⟨z, h1, by rw [h2, show n + 1 + j = n + (j + 1) by omega]⟩
theorem aliasFrom_length (r : Root) : ∀ (l : List C) (n : Nat), (aliasFrom r n l).length = l.length
  | [], _ => rfl
  | _ :: l, n => by simp [aliasFrom, aliasFrom_length r l]
theorem SVRep.alias1 {w : World} {g : Gh} {d : Dirt} {r : Root} {n : Nat} {sv : SV} {v : Value} (h : SVRep w g d r n sv v) (ht : ∀ l, sv ≠ .tup l) (r' : Root) (n' : Nat) : SVRep w g d r' n' (sv.alias1 r n) v := by
  cases h with
  | c h => exact .c (h.alias _)
  | agg vs h =>
    rename_i row
    have := SVRep.agg (w := w) (g := g) (d := d) (r := r') (n := n') (row := aliasFrom r n row) vs (fun j x hj => by
      obtain ⟨y, h1, h2⟩ := aliasFrom_get hj
      subst h2
      exact (h j y h1).alias _)
    rw [aliasFrom_length] at this
    exact this
  | tup vs h => exact absurd rfl (ht _)
theorem aliasTup_get {r : Root} : ∀ {l : List SV} {n j : Nat} {x : SV}, (aliasTup r n l)[j]? = some x → ∃ y, l[j]? = some y ∧ x = y.alias1 r (n + 64 * j)
  | [], n, j, x, h => by simp [aliasTup] at h
  | y :: l, n, 0, x, h => by simp [aliasTup] at h; exact ⟨y, rfl, h.symm⟩
  | y :: l, n, j + 1, x, h => by
    simp only [aliasTup, List.getElem?_cons_succ] at h ⊢
    obtain ⟨z, h1, h2⟩ := aliasTup_get h
    exact ⟨z, h1, by rw [h2]; congr 1; omega⟩
theorem aliasTup_length (r : Root) : ∀ (l : List SV) (n : Nat), (aliasTup r n l).length = l.length
  | [], _ => rfl
  | _ :: l, n => by simp [aliasTup, aliasTup_length r l]
theorem C.alias_roots (x : C) (a : CA) : ∀ r ∈ (x.alias a).roots, r = a.root ∨ r ∈ x.roots := by
  intro r h
  unfold C.alias at h
  split at h
  · simp [C.roots] at h; exact .inl h
  · exact .inr h
theorem aliasFrom_roots (r : Root) : ∀ (l : List C) (n : Nat), ∀ q ∈ C.rootsL (aliasFrom r n l), q = r ∨ q ∈ C.rootsL l
  | [], _, q, h => by simp [aliasFrom, C.rootsL] at h
  | x :: l, n, q, h => by
    simp only [aliasFrom, C.rootsL, List.mem_append] at h ⊢
    rcases h with h | h
    · rcases C.alias_roots _ _ q h with h | h
      · exact .inl h
      · exact .inr (.inl h)
    · rcases aliasFrom_roots r l _ q h with h | h
      · exact .inl h
      · exact .inr (.inr h)
theorem SV.alias1_roots (sv : SV) (r : Root) (n : Nat) : ∀ q ∈ (sv.alias1 r n).roots, q = r ∨ q ∈ sv.roots := by
  intro q h
  cases sv with
  | c x => exact C.alias_roots x _ q h
  | agg row => exact aliasFrom_roots r row n q h
  | tup l => exact .inr h
theorem aliasTup_roots (r : Root) : ∀ (l : List SV) (n : Nat), ∀ q ∈ SV.rootsL (aliasTup r n l), q = r ∨ q ∈ SV.rootsL l
  | [], _, q, h => by simp [aliasTup, SV.rootsL] at h
  | x :: l, n, q, h => by
    simp only [aliasTup, SV.rootsL, List.mem_append] at h ⊢
    rcases h with h | h
    · rcases SV.alias1_roots _ _ _ q h with h | h
      · exact .inl h
      · exact .inr (.inl h)
    · rcases aliasTup_roots r l _ q h with h | h
      · exact .inl h
      · exact .inr (.inr h)
theorem SV.alias_roots (sv : SV) (r : Root) : ∀ q ∈ (sv.alias r).roots, q = r ∨ q ∈ sv.roots := by
  intro q h
  cases sv with
  | c x => exact C.alias_roots x _ q h
  | agg row => exact aliasFrom_roots r row 0 q h
  | tup l => exact aliasTup_roots r l 64 q h
theorem SVRep.alias {w : World} {g : Gh} {d : Dirt} {r : Root} {sv : SV} {v : Value} (h : SVRep w g d r 0 sv v) (hf : sv.flat = true) (r' : Root) : SVRep w g d r' 0 (sv.alias r) v := by
  cases sv with
  | c x => exact h.alias1 (by intro l e; cases e) _ _
  | agg row => exact h.alias1 (by intro l e; cases e) _ _
  | tup l =>
    cases h with
    | tup vs h =>
      have := SVRep.tup (w := w) (g := g) (d := d) (r := r') (n := 0) (l := aliasTup r 64 l) vs (fun j x hj => by
        obtain ⟨y, h1, h2⟩ := aliasTup_get hj
        subst h2
        have h3 := (h j y h1).alias1 (by
          intro l' e
          simp only [SV.flat, List.all_eq_true] at hf
          have := hf y (List.mem_of_getElem? h1)
          rw [e] at this
          simp at this) r' (0 + 64 * (j + 1))
        rw [show 64 + 64 * j = 0 + 64 * (j + 1) by omega]
        exact h3)
      rw [aliasTup_length] at this
      exact this

theorem Sg.rt_ex (σ : Sg) (n : Nat) : σ.ex (σ.rt n) := by
  unfold Sg.rt Vx.rt
  split
  · rename_i h; exact h
  · trivial
theorem rt_eq (σ : Sg) (n : Nat) : rt n (σ.isnew n) = σ.rt n := rfl

end Vx
