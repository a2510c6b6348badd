import Derived.Test.YtjfpbaknhaikmaaV22
namespace Vx
open Go Classical
set_option linter.unusedSimpArgs false
set_option linter.unusedVariables false

/-! ## The end of a region: new places become old ones -/
theorem mem_newKeys {α : Type} {j : Nat} : ∀ {l : List (Nat × α)}, j ∈ newKeys l ↔ 1000 ≤ j ∧ (lk (j + 99000) l).isSome = true
  | [] => by simp [newKeys, lk]
  | (k, x) :: l => by
    have ih := mem_newKeys (j := j) (l := l)
    simp only [newKeys, lk]
    by_cases h : 100000 ≤ k
    · rw [if_pos h]
      simp only [List.mem_cons, ih]
      by_cases e : j + 99000 = k
      · rw [if_pos e]; simp; omega
      · rw [if_neg e]
        have : j ≠ k - 99000 := by omega
        simp [this]
    · rw [if_neg h, ih]
      by_cases e : j + 99000 = k
      · rw [if_pos e]
        constructor
        · rintro ⟨h1, _⟩; omega
        · rintro ⟨h1, _⟩; omega
      · rw [if_neg e]

section
variable (s : St)
def St.nb : List Nat := newKeys s.ob ++ newKeys s.mp
theorem mem_nb {j : Nat} : j ∈ s.nb ↔ 1000 ≤ j ∧ ((lk (j + 99000) s.ob).isSome = true ∨ (lk (j + 99000) s.mp).isSome = true) := by
  simp only [St.nb, List.mem_append, mem_newKeys]
  constructor
  · rintro (⟨h1, h2⟩ | ⟨h1, h2⟩)
    · exact ⟨h1, .inl h2⟩
    · exact ⟨h1, .inr h2⟩
  · rintro ⟨h1, h2 | h2⟩
    · exact .inl ⟨h1, h2⟩
    · exact .inr ⟨h1, h2⟩
end
theorem movedK_iff {nb : List Nat} {k : Nat} : movedK nb k = true ↔ 100000 ≤ k ∧ (k - 99000) ∈ nb := by simp [movedK]
theorem deadK_iff {nb : List Nat} {k : Nat} : deadK nb k = true ↔ k ∈ nb ∧ ¬ movedK nb k = true := by simp [deadK]
theorem keyK_moved {nb : List Nat} {k : Nat} (h : movedK nb k = true) : keyK nb k = k - 99000 := by simp [keyK, h]
theorem keyK_stay {nb : List Nat} {k : Nat} (h : ¬ movedK nb k = true) : keyK nb k = k := by simp [keyK, h]
theorem moved_back {nb : List Nat} (hnb : ∀ j ∈ nb, 1000 ≤ j) {j : Nat} (h : j ∈ nb) : movedK nb (j + 99000) = true := by
  rw [movedK_iff]
  have := hnb j h
  exact ⟨by omega, by simpa using h⟩

theorem lk_fix {α β : Type} {nb : List Nat} (hnb : ∀ j ∈ nb, 1000 ≤ j) (f : α → β) (F : List (Nat × α) → List (Nat × β)) (h0 : F [] = [])
    (h1 : ∀ k x l, F ((k, x) :: l) = if deadK nb k then F l else (keyK nb k, f x) :: F l) : ∀ (l : List (Nat × α)) (k' : Nat),
    lk k' (F l) = if k' ∈ nb then (lk (k' + 99000) l).map f else if movedK nb k' = true then none else (lk k' l).map f
  | [], k' => by rw [h0]; simp [lk]
  | (k, x) :: l, k' => by
    have ih := lk_fix hnb f F h0 h1 l k'
    rw [h1]
    by_cases hd : deadK nb k = true
    · rw [if_pos hd, ih]
      obtain ⟨d1, d2⟩ := deadK_iff.1 hd
      have e1 : ¬ (k' ∈ nb ∧ k' + 99000 = k) := by
        rintro ⟨q1, rfl⟩
        exact d2 (moved_back hnb q1)
      simp only [lk]
      by_cases hk : k' ∈ nb
      · rw [if_pos hk, if_pos hk, if_neg (fun q => e1 ⟨hk, q⟩)]
      · rw [if_neg hk, if_neg hk, if_neg (fun q : k' = k => hk (q ▸ d1))]
    · rw [if_neg hd]
      simp only [lk]
      by_cases hm : movedK nb k = true
      · rw [keyK_moved hm]
        obtain ⟨m1, m2⟩ := movedK_iff.1 hm
        by_cases e : k' = k - 99000
        · have e' : k' + 99000 = k := by omega
          have m2' : k' ∈ nb := by rw [e]; exact m2
          simp only [if_pos e, if_pos m2', if_pos e', Option.map_some]
        · rw [if_neg e, ih]
          by_cases hk : k' ∈ nb
          · rw [if_pos hk, if_pos hk, if_neg (by omega)]
          · rw [if_neg hk, if_neg hk]
            by_cases hmk : movedK nb k' = true
            · rw [if_pos hmk, if_pos hmk]
            · rw [if_neg hmk, if_neg hmk, if_neg (by intro q; subst q; exact hmk hm)]
      · rw [keyK_stay hm]
        have hknb : k ∉ nb := fun q => hd (deadK_iff.2 ⟨q, hm⟩)
        by_cases e : k' = k
        · subst e
          rw [if_pos rfl, if_neg hknb, if_neg hm, if_pos rfl, Option.map_some]
        · rw [if_neg e, ih]
          by_cases hk : k' ∈ nb
          · rw [if_pos hk, if_pos hk, if_neg]
            rintro rfl
            exact hm (moved_back hnb hk)
          · rw [if_neg hk, if_neg hk, if_neg e]
theorem lk_fixOb {nw nb : List Nat} {di : List (Root × Nat)} (hnb : ∀ j ∈ nb, 1000 ≤ j) (l : List (Nat × List C)) (k' : Nat) :
    lk k' (fixOb nw nb di l) = if k' ∈ nb then (lk (k' + 99000) l).map (·.map (fixC nw nb di)) else if movedK nb k' = true then none else (lk k' l).map (·.map (fixC nw nb di)) :=
  lk_fix hnb (·.map (fixC nw nb di)) (fixOb nw nb di) rfl (fun _ _ _ => rfl) l k'
theorem lk_fixMp {nb : List Nat} (hnb : ∀ j ∈ nb, 1000 ≤ j) (l : List (Nat × List (T × T))) (k' : Nat) :
    lk k' (fixMp nb l) = if k' ∈ nb then lk (k' + 99000) l else if movedK nb k' = true then none else lk k' l := by
  have := lk_fix hnb id (fixMp nb) rfl (fun _ _ _ => rfl) l k'
  simpa using this
theorem lk_fixVi {nw nb : List Nat} {di : List (Root × Nat)} : ∀ (l : List (Nat × C)) (k' : Nat), lk k' (fixVi nw nb di l) = if k' ∈ nb ∨ movedK nb k' = true then none else (lk k' l).map (fixC nw nb di)
  | [], k' => by simp [fixVi, lk]
  | (k, x) :: l, k' => by
    have ih := lk_fixVi (nw := nw) (nb := nb) (di := di) l k'
    simp only [fixVi]
    by_cases h : (nb.contains k || movedK nb k) = true
    · rw [if_pos h, ih]
      have h' : k ∈ nb ∨ movedK nb k = true := by simpa using h
      by_cases e : k' = k
      · subst e; rw [if_pos h', if_pos h']
      · simp only [lk, if_neg e]
    · rw [if_neg h]
      have h' : ¬ (k ∈ nb ∨ movedK nb k = true) := by simpa using h
      by_cases e : k' = k
      · subst e; simp only [lk, if_true, if_neg h']; rfl
      · simp only [lk, if_neg e, ih]
theorem lk_fixSl {keep nw nb : List Nat} {di : List (Root × Nat)} : ∀ (l : List (Nat × SV)) (n : Nat), lk n (fixSl keep nw nb di l) = if n ∈ keep then (lk n l).map (fixSV nw nb di) else none
  | [], n => by simp [fixSl, lk]
  | (m, x) :: l, n => by
    have ih := lk_fixSl (keep := keep) (nw := nw) (nb := nb) (di := di) l n
    simp only [fixSl]
    by_cases h : keep.contains m = true
    · rw [if_pos h]
      have h' : m ∈ keep := by simpa using h
      by_cases e : n = m
      · subst e; simp [lk, h']
      · simp only [lk, if_neg e, ih]
    · rw [if_neg h, ih]
      have h' : m ∉ keep := by simpa using h
      by_cases e : n = m
      · subst e; rw [if_neg h', if_neg h']
      · simp only [lk, if_neg e]

/-- The renaming of the places. -/
def fixRen (nw nb : List Nat) (hnb : ∀ j ∈ nb, 1000 ≤ j) : Ren where
  S a := match a.root with
    | .new n => n ∈ nw
    | .obj k => movedK nb k = true
    | _ => False
  D a := match a.root with
    | .slot n => n ∈ nw
    | .obj k => k ∈ nb
    | _ => False
  f a := fixA nb a
  fi a := match a.root with
    | .slot n => { a with root := .new n }
    | .obj k => { a with root := .obj (k + 99000) }
    | _ => a
  inv := by
    rintro ⟨r, c, p⟩ h
    cases r with
    | new n => exact ⟨h, rfl⟩
    | obj k =>
      have h : movedK nb k = true := h
      obtain ⟨h1, h2⟩ := movedK_iff.1 h
      refine ⟨?_, ?_⟩
      · show keyK nb k ∈ nb
        rw [keyK_moved h]; exact h2
      · show (⟨Root.obj (keyK nb k + 99000), c, p⟩ : CA) = _
        rw [keyK_moved h, Nat.sub_add_cancel (by omega)]
    | slot n => exact h.elim
    | ret => exact h.elim
  hop := by
    rintro ⟨r, c, p⟩ h x
    exact ⟨h, rfl⟩
def Tag.fix (nb : List Nat) : Tag → Tag
  | .box k => if movedK nb k = true then .box (k - 99000) else if k ∈ nb then .other else .box k
  | t => t
noncomputable def fixGh (nw nb : List Nat) (hnb : ∀ j ∈ nb, 1000 ≤ j) (g : Gh) : Gh :=
  { g.ren (fixRen nw nb hnb) with
    ow := fun b => ((g.ren (fixRen nw nb hnb)).ow b).fix nb
    bl := fun j => if j ∈ nb then g.bl (j + 99000) else g.bl j }

section
variable {nw nb : List Nat} {hnb : ∀ j ∈ nb, 1000 ≤ j} {w : World} {g : Gh} {d : Dirt} {di : List (Root × Nat)}
theorem fixGh_fz {b : Nat} (h : g.ow b = .frozen) : (fixGh nw nb hnb g).ow b = .frozen := by simp [fixGh, Gh.ren, h, Tag.fix]
theorem fixGh_other {b : Nat} (h : g.ow b = .other) : (fixGh nw nb hnb g).ow b = .other := by simp [fixGh, Gh.ren, h, Tag.fix]
theorem fixGh_box {b k : Nat} (h : g.ow b = .box k) (hd : deadK nb k = false) : (fixGh nw nb hnb g).ow b = .box (keyK nb k) := by
  simp only [fixGh, Gh.ren, h, Tag.fix]
  by_cases hm : movedK nb k = true
  · rw [if_pos hm, keyK_moved hm]
  · rw [if_neg hm, keyK_stay hm, if_neg]
    intro q
    rw [deadK_iff.2 ⟨q, hm⟩] at hd
    cases hd
theorem fixGh_bl {k : Nat} (hd : deadK nb k = false) : (fixGh nw nb hnb g).bl (keyK nb k) = g.bl k := by
  show (if keyK nb k ∈ nb then g.bl (keyK nb k + 99000) else g.bl (keyK nb k)) = _
  by_cases hm : movedK nb k = true
  · obtain ⟨h1, h2⟩ := movedK_iff.1 hm
    rw [keyK_moved hm, if_pos h2, Nat.sub_add_cancel (by omega)]
  · rw [keyK_stay hm, if_neg]
    intro q
    rw [deadK_iff.2 ⟨q, hm⟩] at hd
    cases hd
theorem Rep.fixG {a : CA} {t : T} {v : Value} (h : Rep w (g.ren (fixRen nw nb hnb)) a t v) : Rep w (fixGh nw nb hnb g) a t v := by
  refine h.frame (Nat.le_refl _) (fun b _ ho => ⟨?_, rfl⟩) (fun b a' _ _ ho => ⟨?_, rfl⟩) (fun _ _ => rfl)
  · show ((g.ren (fixRen nw nb hnb)).ow b).fix nb = .frozen
    rw [ho]; rfl
  · show ((g.ren (fixRen nw nb hnb)).ow b).fix nb = .own a'
    rw [ho]; rfl

/-- A root that stays or moves. -/
def Fine (nw nb : List Nat) (r : Root) : Prop := isNewOf nw r = false ∧ deadR nb r = false ∧ ∀ n, r = .new n → n ∈ nw
theorem fine_stay {r : Root} (h : Fine nw nb r) {c : Nat} {p : List Hop} (hS : ¬ (fixRen nw nb hnb).S ⟨r, c, p⟩) : ¬ (fixRen nw nb hnb).D ⟨r, c, p⟩ ∧ fixR nb r = r := by
  obtain ⟨h1, h2, h3⟩ := h
  cases r with
  | slot n => exact ⟨fun q => by have : n ∈ nw := q; simp [isNewOf, this] at h1, rfl⟩
  | new n => exact absurd (h3 n rfl) hS
  | obj k =>
    have hm : ¬ movedK nb k = true := hS
    refine ⟨fun q => ?_, by simp only [fixR, keyK_stay hm]⟩
    have hd := deadK_iff.2 ⟨show k ∈ nb from q, hm⟩
    simp [deadR, hd] at h2
  | ret => exact ⟨fun q => q.elim, rfl⟩
theorem fine_hd {p : CA} (h : Fine nw nb p.root) : (fixGh nw nb hnb g).hd (fixA nb p) = g.hd p := by
  show (g.ren (fixRen nw nb hnb)).hd (fixA nb p) = _
  by_cases hS : (fixRen nw nb hnb).S p
  · obtain ⟨e1, e2⟩ := (fixRen nw nb hnb).inv p hS
    show (if (fixRen nw nb hnb).D (fixA nb p) then g.hd ((fixRen nw nb hnb).fi (fixA nb p)) else g.hd (fixA nb p)) = _
    have e1' : (fixRen nw nb hnb).D (fixA nb p) := e1
    rw [if_pos e1']
    exact congrArg g.hd e2
  · obtain ⟨e1, e2⟩ := fine_stay (hnb := hnb) h (c := p.c) (p := p.path) hS
    have : fixA nb p = p := by cases p; simp only [fixA, e2]
    rw [this]
    exact Gh.ren_hd e1
theorem fine_rep {r : Root} (h : Fine nw nb r) {c : Nat} {t : T} {v : Value} (hr : Rep w g ⟨r, c, []⟩ t v) : Rep w (fixGh nw nb hnb g) ⟨fixR nb r, c, []⟩ t v := by
  by_cases hS : (fixRen nw nb hnb).S ⟨r, c, []⟩
  · exact (hr.ren (Mem.refl _ _) hS).fixG
  · obtain ⟨e1, e2⟩ := fine_stay (hnb := hnb) h hS
    rw [e2]
    have hst : Still w w g (g.ren (fixRen nw nb hnb)) r c := Gh.ren_still (Mem.refl _ _) (fun p => hS) (fun p => e1)
    have hk : Keeps w w g (g.ren (fixRen nw nb hnb)) (fun _ _ => false) (fun _ _ => false) (fun _ => False) := ⟨Nat.le_refl _, fun b _ h => ⟨Gh.ren_fz h, rfl⟩, fun _ _ h => h.elim, fun _ h => h.elim⟩
    exact (hr.still hk hst).fixG
theorem fine_prep {p : CA} {v : Value} (h : Fine nw nb p.root) (hr : PRep g p v) : PRep (fixGh nw nb hnb g) (fixA nb p) v := by
  obtain ⟨r, c, q⟩ := p
  cases q with
  | nil =>
    obtain ⟨k, rfl, e⟩ := PRep.path_nil.1 hr
    refine PRep.path_nil.2 ⟨keyK nb k, rfl, ?_⟩
    rw [fixGh_bl h.2.1]; exact e
  | cons x q =>
    obtain ⟨b, off, n, cap, e1, e2⟩ := PRep.path_cons.1 hr
    refine PRep.path_cons.2 ⟨b, off, n, cap, ?_, e2⟩
    exact (fine_hd (p := ⟨r, c, q⟩) h).trans e1

/-- Who is exposed is fine, or dropped. -/
def OkRoots (nw : List Nat) (l : List Root) : Prop := ∀ r ∈ l, ∀ n, r = .new n → n ∈ nw
theorem CRep.fix {r : Root} (hr : Fine nw nb r) {c : Nat} {x : C} {v : Value} (hd : ∀ r c, d r c = true → (r, c) ∈ di) (h : CRep w g d ⟨r, c, []⟩ x v) (hroots : OkRoots nw x.roots) :
    CRep w (fixGh nw nb hnb g) (fun _ _ => false) ⟨fixR nb r, c, []⟩ (fixC nw nb di x) v := by
  cases h with
  | t h => exact .t (fine_rep hr h)
  | @ref p _ h h1 =>
    simp only [fixC]
    split
    · exact .t (.fro .top)
    · rename_i hc
      simp only [Bool.or_eq_true, not_or, Bool.not_eq_true, List.contains_eq_mem, decide_eq_false_iff_not] at hc
      obtain ⟨⟨q1, q2⟩, q3⟩ := hc
      refine .ref (fun _ => ?_) h1
      have hdf : d p.root p.c = false := by
        cases hh : d p.root p.c with
        | false => rfl
        | true => exact absurd (hd _ _ hh) q2
      rw [h hdf]
      exact (fine_hd ⟨q1, q3, hroots _ (by simp [C.roots])⟩).symm
  | @ptr p _ h h0 h1 =>
    simp only [fixC]
    split
    · exact .t (.fro .top)
    · rename_i hc
      simp only [Bool.or_eq_true, not_or, Bool.not_eq_true, Bool.and_eq_true, not_and] at hc
      obtain ⟨⟨q1, q2⟩, q3⟩ := hc
      have hp : PRep g p v := by
        by_cases hpn : p.path = []
        · exact h0 hpn
        · refine h hpn ?_
          cases hh : d p.root p.c with
          | false => rfl
          | true =>
            have := q2 (by simpa using hpn)
            rw [List.contains_eq_mem] at this
            simp [hd _ _ hh] at this
      have hp' := fine_prep (hnb := hnb) ⟨q1, q3, hroots _ (by simp [C.roots])⟩ hp
      exact .ptr (fun _ _ => hp') (fun _ => hp') h1
  | fp vs hh ho hcell hrec => exact .fp vs hh (fixGh_fz ho) hcell fun j x hj => (hrec j x hj).frame (Nat.le_refl _) fun b _ hb => ⟨fixGh_fz hb, rfl⟩
  | @clo f caps vs hn h =>
    simp only [fixC]
    split
    · rename_i hc
      simp only [List.all_eq_true] at hc
      have := CRep.clo (w := w) (g := fixGh nw nb hnb g) (d := fun _ _ => false) (a := ⟨fixR nb r, c, []⟩) (f := f) (caps := caps.map (fixCap nb)) vs (fun x hx => by
        obtain ⟨y, hy, rfl⟩ := List.mem_map.1 hx
        have := hn y hy
        cases y <;> first | rfl | exact this) (fun j x hj => by
        simp only [List.getElem?_map, Option.map_eq_some_iff] at hj
        obtain ⟨y, hy, rfl⟩ := hj
        have hmem := List.mem_of_getElem? hy
        have h1 := h j y hy
        have hok := hc y hmem
        cases y with
        | t y =>
          cases h1 with | t h1 =>
          exact .t (.fro ((h1.isFro fun sz xs e => by subst e; have := hn _ hmem; simp [C.isOwn] at this).frame (Nat.le_refl _) fun b _ hb => ⟨fixGh_fz hb, rfl⟩))
        | ptr p =>
          obtain ⟨r', c', q⟩ := p
          cases r' with
          | obj k =>
            cases q with
            | nil =>
              simp only [okCap, Bool.not_eq_true'] at hok
              cases h1 with | ptr _ h0 h2 =>
              have hp' := fine_prep (hnb := hnb) (nw := nw) (p := ⟨.obj k, c', []⟩) ⟨rfl, hok, fun n e => by cases e⟩ (h0 rfl)
              exact .ptr (fun _ _ => hp') (fun _ => hp') h2
            | cons _ _ => simp [okCap] at hok
          | _ => simp [okCap] at hok
        | _ => simp [okCap] at hok)
      simpa using this
    · exact .t (.fro .top)
  | @mp k _ h =>
    simp only [fixC]
    split
    · exact .t (.fro .top)
    · rename_i hdead
      refine .mp ?_
      rw [fixGh_bl (by simpa using hdead)]
      exact h
end
end Vx
