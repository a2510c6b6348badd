import Derived.Test.YtjfpbaknhaikmaaV23
namespace Vx
open Go Classical
set_option linter.unusedSimpArgs false
set_option linter.unusedVariables false

theorem nb_ge (s : St) : ∀ j ∈ s.nb, 1000 ≤ j := fun j h => ((mem_nb s).1 h).1
section
variable {s : St} {keep : List Nat}
abbrev St.fc (s : St) : C → C := fixC s.nw s.nb s.di
theorem fix_slot (n : Nat) : (s.fix keep).slot n = if n ∈ keep then fixSV s.nw s.nb s.di (s.slot n) else .c (.t .top) := by
  show (lk n (fixSl keep s.nw s.nb s.di s.sl)).getD _ = _
  rw [lk_fixSl]
  split
  · cases h : lk n s.sl with
    | none => simp [St.slot, h, fixSV, fixSV1, fixC]
    | some x => simp [St.slot, h]
  · rfl
theorem fix_isnew (n : Nat) : (s.fix keep).isnew n = false := rfl
theorem fix_dirty : (s.fix keep).dirty = fun _ _ => false := rfl
theorem getD_fix (row : List C) (c : Nat) : (row.map s.fc).getD c (.t .top) = s.fc (row.getD c (.t .top)) := by
  simp only [List.getD, List.getElem?_map]
  cases row[c]? with
  | none => rfl
  | some x => rfl
theorem fix_ob (k' : Nat) : lk k' (s.fix keep).ob = if k' ∈ s.nb then (lk (k' + 99000) s.ob).map (·.map s.fc) else if movedK s.nb k' = true then none else (lk k' s.ob).map (·.map s.fc) := lk_fixOb (nb_ge s) _ _
theorem fix_vi (k' : Nat) : lk k' (s.fix keep).vi = if k' ∈ s.nb ∨ movedK s.nb k' = true then none else (lk k' s.vi).map s.fc := lk_fixVi _ _
theorem fix_mp (k' : Nat) : lk k' (s.fix keep).mp = if k' ∈ s.nb then lk (k' + 99000) s.mp else if movedK s.nb k' = true then none else lk k' s.mp := lk_fixMp (nb_ge s) _ _
theorem obj_src {k' : Nat} {kd : Kind} (h : (s.fix keep).kind k' = some kd) : ∃ k, deadK s.nb k = false ∧ keyK s.nb k = k' ∧ s.kind k = some kd ∧ ∀ c, (s.fix keep).cell k' c = s.fc (s.cell k c) := by
  by_cases h1 : k' ∈ s.nb
  · have hm := moved_back (nb_ge s) h1
    refine ⟨k' + 99000, ?_, by rw [keyK_moved hm]; omega, ?_⟩
    · cases hd : deadK s.nb (k' + 99000) with
      | false => rfl
      | true => exact absurd hm (deadK_iff.1 hd).2
    · simp only [St.kind, fix_ob, fix_vi, if_pos h1, h1, true_or, if_true] at h
      cases ho : lk (k' + 99000) s.ob with
      | none => rw [ho] at h; simp at h
      | some row =>
        rw [ho] at h
        simp only [Option.map_some, List.length_map, Option.some.injEq] at h
        subst h
        refine ⟨by simp [St.kind, ho], fun c => ?_⟩
        simp only [St.cell, fix_ob, if_pos h1, ho, Option.map_some]
        exact getD_fix row c
  · by_cases h2 : movedK s.nb k' = true
    · exfalso
      simp only [St.kind, fix_ob, fix_vi, if_neg h1, if_pos h2, h2, or_true, if_true] at h
      cases h
    · refine ⟨k', ?_, keyK_stay h2, ?_⟩
      · cases hd : deadK s.nb k' with
        | false => rfl
        | true => exact absurd (deadK_iff.1 hd).1 h1
      · have h3 : ¬ (k' ∈ s.nb ∨ movedK s.nb k' = true) := by simp [h1, h2]
        simp only [St.kind, St.cell, fix_ob, fix_vi, if_neg h1, if_neg h2, if_neg h3] at h ⊢
        cases ho : lk k' s.ob with
        | some row =>
          rw [ho] at h
          simp only [Option.map_some, List.length_map] at h ⊢
          exact ⟨h, fun c => getD_fix row c⟩
        | none =>
          rw [ho] at h
          cases hv : lk k' s.vi with
          | none => rw [hv] at h; simp at h
          | some x =>
            rw [hv] at h
            simp only [Option.map_none, Option.map_some] at h ⊢
            refine ⟨h, fun c => ?_⟩
            split <;> rfl
theorem cell_none {k' c : Nat} (h : (s.fix keep).kind k' = none) : (s.fix keep).cell k' c = .t .top := by
  simp only [St.kind] at h
  simp only [St.cell]
  cases ho : lk k' (s.fix keep).ob with
  | some row => rw [ho] at h; cases h
  | none =>
    rw [ho] at h
    cases hv : lk k' (s.fix keep).vi with
    | some x => rw [hv] at h; cases h
    | none => rfl
theorem ex_key {k : Nat} (h : s.sg.ex (.obj k)) (hd : deadK s.nb k = false) : (s.fix keep).sg.ex (.obj (keyK s.nb k)) := by
  by_cases hm : movedK s.nb k = true
  · obtain ⟨h1, h2⟩ := movedK_iff.1 hm
    rw [keyK_moved hm]
    obtain ⟨_, h3⟩ := (mem_nb s).1 h2
    rw [Nat.sub_add_cancel (by omega)] at h3
    rcases h3 with h3 | h3
    · refine .inr (.inl ?_)
      show (s.fix keep).kind (k - 99000) ≠ none
      obtain ⟨row, hr⟩ := Option.isSome_iff_exists.1 h3
      simp [St.kind, fix_ob, if_pos h2, Nat.sub_add_cancel (show 99000 ≤ k by omega), hr]
    · refine .inr (.inr ?_)
      show lk (k - 99000) (s.fix keep).mp ≠ none
      obtain ⟨es, hr⟩ := Option.isSome_iff_exists.1 h3
      simp [fix_mp, if_pos h2, Nat.sub_add_cancel (show 99000 ≤ k by omega), hr]
  · have hnb : k ∉ s.nb := fun q => by rw [deadK_iff.2 ⟨q, hm⟩] at hd; cases hd
    rw [keyK_stay hm]
    rcases Nat.lt_or_ge k 100000 with hlt | hge
    · exact .inl hlt
    · have hnot : ¬ ((lk k s.ob).isSome = true ∨ (lk k s.mp).isSome = true) := by
        intro q
        apply hm
        rw [movedK_iff]
        refine ⟨hge, (mem_nb s).2 ⟨by omega, ?_⟩⟩
        rw [Nat.sub_add_cancel (by omega)]
        exact q
      simp only [not_or, Option.not_isSome_iff_eq_none, Bool.not_eq_true, Option.isSome_eq_false_iff, Option.isNone_iff_eq_none] at hnot
      rcases h with h | h | h
      · exact .inl h
      · refine .inr (.inl ?_)
        have h : s.kind k ≠ none := h
        show (s.fix keep).kind k ≠ none
        have h3 : ¬ (k ∈ s.nb ∨ movedK s.nb k = true) := by simp [hnb, hm]
        simp only [St.kind, hnot.1] at h
        simp only [St.kind, fix_ob, fix_vi, if_neg hnb, if_neg hm, if_neg h3, hnot.1, Option.map_none]
        cases hv : lk k s.vi with
        | none => rw [hv] at h; exact absurd rfl h
        | some x => simp
      · have h : lk k s.mp ≠ none := h
        exact absurd hnot.2 h
theorem ex_root {r : Root} (h : s.sg.ex r) (hd : deadR s.nb r = false) : (s.fix keep).sg.ex (fixR s.nb r) := by
  cases r with
  | slot n => trivial
  | new n => trivial
  | obj k => exact ex_key h hd
  | ret => exact h.elim
theorem fc_roots {x : C} (h : ∀ r ∈ x.roots, s.sg.ex r) : ∀ r ∈ (s.fc x).roots, (s.fix keep).sg.ex r := by
  intro r hr
  cases x with
  | t y => simp [fixC, C.roots] at hr
  | ref p =>
    simp only [St.fc, fixC] at hr
    split at hr
    · simp [C.roots] at hr
    · rename_i hc
      simp only [Bool.or_eq_true, not_or, Bool.not_eq_true] at hc
      simp only [C.roots, List.mem_singleton] at hr
      subst hr
      exact ex_root (h _ (by simp [C.roots])) hc.2
  | ptr p =>
    simp only [St.fc, fixC] at hr
    split at hr
    · simp [C.roots] at hr
    · rename_i hc
      simp only [Bool.or_eq_true, not_or, Bool.not_eq_true] at hc
      simp only [C.roots, List.mem_singleton] at hr
      subst hr
      exact ex_root (h _ (by simp [C.roots])) hc.2
  | fp row c => simp [fixC, C.roots] at hr
  | clo f caps =>
    simp only [St.fc, fixC] at hr
    split at hr
    · rename_i hc
      simp only [List.all_eq_true] at hc
      simp only [C.roots] at hr
      obtain ⟨z, hz, hr⟩ := C.mem_rootsL.1 hr
      obtain ⟨y, hy, rfl⟩ := List.mem_map.1 hz
      have hok := hc y hy
      cases y with
      | t y => simp [fixCap, C.roots] at hr
      | ptr p =>
        obtain ⟨r', c', q⟩ := p
        cases r' with
        | obj k =>
          cases q with
          | nil =>
            simp only [okCap, Bool.not_eq_true'] at hok
            simp only [fixCap, C.roots, List.mem_singleton, fixA, fixR] at hr
            subst hr
            exact ex_key (h _ (by simp only [C.roots]; exact C.mem_rootsL.2 ⟨_, hy, by simp [C.roots]⟩)) hok
          | cons _ _ => simp [okCap] at hok
        | _ => simp [okCap] at hok
      | _ => simp [okCap] at hok
    · simp [C.roots] at hr
  | mp k =>
    simp only [St.fc, fixC] at hr
    split at hr
    · simp [C.roots] at hr
    · rename_i hc
      simp only [C.roots, List.mem_singleton] at hr
      subst hr
      exact ex_key (h _ (by simp [C.roots])) (by simpa using hc)
theorem fixSV1_roots {x : SV} (h : ∀ r ∈ x.roots, s.sg.ex r) : ∀ r ∈ (fixSV1 s.nw s.nb s.di x).roots, (s.fix keep).sg.ex r := by
  intro r hr
  cases x with
  | c x => exact fc_roots h r hr
  | agg row =>
    simp only [fixSV1, SV.roots] at hr
    obtain ⟨z, hz, hr⟩ := C.mem_rootsL.1 hr
    obtain ⟨y, hy, rfl⟩ := List.mem_map.1 hz
    exact fc_roots (fun r hr => h r (by simp only [SV.roots]; exact C.mem_rootsL.2 ⟨y, hy, hr⟩)) r hr
  | tup l => simp [fixSV1, SV.roots, C.roots] at hr
theorem fixSV_roots {x : SV} (h : ∀ r ∈ x.roots, s.sg.ex r) : ∀ r ∈ (fixSV s.nw s.nb s.di x).roots, (s.fix keep).sg.ex r := by
  intro r hr
  cases x with
  | tup l =>
    simp only [fixSV, SV.roots] at hr
    obtain ⟨z, hz, hr⟩ := SV.mem_rootsL.1 hr
    obtain ⟨y, hy, rfl⟩ := List.mem_map.1 hz
    exact fixSV1_roots (fun r hr => h r (by simp only [SV.roots]; exact SV.mem_rootsL.2 ⟨y, hy, hr⟩)) r hr
  | c x => exact fixSV1_roots h r hr
  | agg row => exact fixSV1_roots h r hr
theorem fixSV_flat {x : SV} (h : x.flat = true) : (fixSV s.nw s.nb s.di x).flat = true := by
  cases x with
  | tup l =>
    simp only [fixSV, SV.flat, List.all_eq_true] at h ⊢
    intro z hz
    obtain ⟨y, hy, rfl⟩ := List.mem_map.1 hz
    have := h y hy
    cases y with
    | c x => rfl
    | agg row => simpa [fixSV1] using this
    | tup l => rfl
  | c x => rfl
  | agg row => rfl
theorem ok_roots {l : List Root} (h : ∀ r ∈ l, s.sg.ex r) : OkRoots s.nw l := by
  rintro r hr n rfl
  have : s.isnew n = true := h _ hr
  simpa [St.isnew] using this

theorem SVRep.fix1 {w : World} {g : Gh} {hnb : ∀ j ∈ s.nb, 1000 ≤ j} {r : Root} (hr : Fine s.nw s.nb r) {n : Nat} {sv : SV} {v : Value} (hroots : ∀ r ∈ sv.roots, s.sg.ex r) (h : SVRep w g s.dirty r n sv v) :
    SVRep w (fixGh s.nw s.nb hnb g) (fun _ _ => false) (fixR s.nb r) n (fixSV1 s.nw s.nb s.di sv) v := by
  have hd : ∀ r c, s.dirty r c = true → (r, c) ∈ s.di := by intro r c h; simpa [St.dirty] using h
  cases h with
  | c h => exact .c (h.fix hr hd (ok_roots hroots))
  | agg vs h =>
    rename_i row
    have := SVRep.agg (w := w) (g := fixGh s.nw s.nb hnb g) (d := fun _ _ => false) (r := fixR s.nb r) (n := n) (row := row.map (fixC s.nw s.nb s.di)) vs (fun j x hj => by
      simp only [List.getElem?_map, Option.map_eq_some_iff] at hj
      obtain ⟨y, hy, rfl⟩ := hj
      exact (h j y hy).fix hr hd (ok_roots fun r hr => hroots r (by simp only [SV.roots]; exact C.mem_rootsL.2 ⟨y, List.mem_of_getElem? hy, hr⟩)))
    rw [List.length_map] at this
    exact this
  | tup vs h => exact .c (.t (.fro .top))
theorem SVRep.fix {w : World} {g : Gh} {hnb : ∀ j ∈ s.nb, 1000 ≤ j} {r : Root} (hr : Fine s.nw s.nb r) {sv : SV} {v : Value} (hroots : ∀ r ∈ sv.roots, s.sg.ex r) (h : SVRep w g s.dirty r 0 sv v) :
    SVRep w (fixGh s.nw s.nb hnb g) (fun _ _ => false) (fixR s.nb r) 0 (fixSV s.nw s.nb s.di sv) v := by
  cases sv with
  | c x => exact h.fix1 hr hroots
  | agg row => exact h.fix1 hr hroots
  | tup l =>
    cases h with
    | tup vs h =>
      have := SVRep.tup (w := w) (g := fixGh s.nw s.nb hnb g) (d := fun _ _ => false) (r := fixR s.nb r) (n := 0) (l := l.map (fixSV1 s.nw s.nb s.di)) vs (fun j x hj => by
        simp only [List.getElem?_map, Option.map_eq_some_iff] at hj
        obtain ⟨y, hy, rfl⟩ := hj
        exact (h j y hy).fix1 hr fun r hr => hroots r (by simp only [SV.roots]; exact SV.mem_rootsL.2 ⟨y, List.mem_of_getElem? hy, hr⟩))
      rw [List.length_map] at this
      exact this

theorem Core.fix {E : Env} {tmps : Array Value} {w : World} {g : Gh} (hc : Core E s.sg tmps w g) (keep : List Nat) :
    Core E (s.fix keep).sg tmps w (fixGh s.nw s.nb (nb_ge s) g) ∧ Move w g w (fixGh s.nw s.nb (nb_ge s) g) := by
  have hd : ∀ r c, s.dirty r c = true → (r, c) ∈ s.di := by intro r c h; simpa [St.dirty] using h
  refine ⟨⟨fun n => ?_, fun n => ?_, fun n r hr => ?_, fun k' c r hr => ?_, fun k' kd h => ?_, fun k' es h => ?_, fun b hb => ?_, hc.size⟩, ?_⟩
  · show SVRep w _ (fun _ _ => false) (.slot n) 0 ((s.fix keep).slot n) _
    rw [fix_slot]
    split
    · have hfine : Fine s.nw s.nb (s.sg.rt n) := by
        rcases s.sg.rt_slot n with e | e
        · rw [e]
          refine ⟨?_, rfl, fun m q => by cases q⟩
          have : s.isnew n = false := by
            cases hn : s.isnew n with
            | false => rfl
            | true =>
              have : s.sg.rt n = .new n := by simp [Sg.rt, Vx.rt, St.sg, hn]
              rw [this] at e; cases e
          simpa [isNewOf, St.isnew] using this
        · rw [e]
          refine ⟨rfl, rfl, fun m q => ?_⟩
          cases q
          have : s.isnew n = true := by
            cases hn : s.isnew n with
            | true => rfl
            | false =>
              have : s.sg.rt n = .slot n := by simp [Sg.rt, Vx.rt, St.sg, hn]
              rw [this] at e; cases e
          simpa [St.isnew] using this
      have := SVRep.fix (hnb := nb_ge s) hfine (hc.liveS n) (hc.slots n)
      have hfr : fixR s.nb (s.sg.rt n) = .slot n := by rcases s.sg.rt_slot n with e | e <;> rw [e] <;> rfl
      rw [hfr] at this
      exact this
    · exact .c (.t (.fro .top))
  · show ((s.fix keep).slot n).flat = true
    rw [fix_slot]
    split
    · exact fixSV_flat (hc.flat n)
    · rfl
  · have hr : r ∈ ((s.fix keep).slot n).roots := hr
    rw [fix_slot] at hr
    split at hr
    · exact fixSV_roots (hc.liveS n) r hr
    · simp [SV.roots, C.roots] at hr
  · have hr : r ∈ ((s.fix keep).cell k' c).roots := hr
    cases hk : (s.fix keep).kind k' with
    | none => rw [cell_none hk] at hr; simp [C.roots] at hr
    | some kd =>
      obtain ⟨k, _, _, _, h4⟩ := obj_src hk
      rw [h4] at hr
      exact fc_roots (hc.liveC k c) r hr
  · obtain ⟨k, h1, h2, h3, h4⟩ := obj_src (show (s.fix keep).kind k' = some kd from h)
    have base := hc.objs k kd h3
    have hfine : Fine s.nw s.nb (.obj k) := ⟨rfl, h1, fun n q => by cases q⟩
    have hcell : ∀ c u, CRep w g s.dirty ⟨.obj k, c, []⟩ (s.cell k c) u → CRep w (fixGh s.nw s.nb (nb_ge s) g) (fun _ _ => false) ⟨.obj k', c, []⟩ ((s.fix keep).cell k' c) u := by
      intro c u hu
      have := hu.fix (hnb := nb_ge s) hfine hd (ok_roots (hc.liveC k c))
      rw [h4]
      simp only [fixR, h2] at this
      exact this
    have hbl := fixGh_bl (nw := s.nw) (hnb := nb_ge s) (g := g) h1
    rw [h2] at hbl
    cases kd with
    | box m =>
      obtain ⟨cs, el, b1, b2, b3, b4, b5⟩ := base
      refine ⟨cs, el, by rw [hbl]; exact b1, ?_, by rw [hbl]; exact b3, by rw [hbl]; exact b4, fun c hcm => ?_⟩
      · rw [hbl, fixGh_box b2 h1, h2]
      · obtain ⟨u, u1, u2⟩ := b5 c hcm
        exact ⟨u, by rw [hbl]; exact u1, hcell c u u2⟩
    | virt =>
      obtain ⟨u, hu⟩ := base
      exact ⟨u, hcell 0 u hu⟩
  · have h : lk k' (s.fix keep).mp = some es := h
    rw [fix_mp] at h
    have hsrc : ∃ k, deadK s.nb k = false ∧ keyK s.nb k = k' ∧ s.map k = some es := by
      by_cases h1 : k' ∈ s.nb
      · rw [if_pos h1] at h
        have hm := moved_back (nb_ge s) h1
        refine ⟨k' + 99000, ?_, by rw [keyK_moved hm]; omega, h⟩
        cases hdd : deadK s.nb (k' + 99000) with
        | false => rfl
        | true => exact absurd hm (deadK_iff.1 hdd).2
      · rw [if_neg h1] at h
        by_cases h2 : movedK s.nb k' = true
        · rw [if_pos h2] at h; cases h
        · rw [if_neg h2] at h
          refine ⟨k', ?_, keyK_stay h2, h⟩
          cases hdd : deadK s.nb k' with
          | false => rfl
          | true => exact absurd (deadK_iff.1 hdd).1 h1
    obtain ⟨k, h1, h2, h3⟩ := hsrc
    obtain ⟨l, ck, m1, m2, m3, m4⟩ := hc.maps k es h3
    have hbl := fixGh_bl (nw := s.nw) (hnb := nb_ge s) (g := g) h1
    rw [h2] at hbl
    refine ⟨l, ck, by rw [hbl]; exact m1, by rw [hbl, fixGh_box m2 h1, h2], m3, fun i e x a1 a2 => ?_⟩
    obtain ⟨q1, q2⟩ := m4 i e x a1 a2
    exact ⟨q1.frame (Nat.le_refl _) fun b _ hb => ⟨fixGh_fz hb, rfl⟩, q2.frame (Nat.le_refl _) fun b _ hb => ⟨fixGh_fz hb, rfl⟩⟩
  · obtain ⟨e1, e2⟩ := hc.glob b hb
    exact ⟨fixGh_other e1, e2⟩
  · refine ⟨Nat.le_refl _, rfl, fun b _ h => ⟨?_, rfl⟩, fun k hk => ?_, fun b k _ hk h => ⟨?_, fun cs _ _ hh => ⟨cs, hh, rfl, fun _ _ => rfl⟩⟩, rfl, rfl, rfl⟩
    · rcases h with h | h
      · rw [h, fixGh_fz h]
      · rw [h, fixGh_other h]
    · show (if k ∈ s.nb then g.bl (k + 99000) else g.bl k) = _
      rw [if_neg]
      intro q
      have := nb_ge s k q
      omega
    · have h1 : deadK s.nb k = false := by
        cases hdd : deadK s.nb k with
        | false => rfl
        | true =>
          have := nb_ge s k (deadK_iff.1 hdd).1
          omega
      rw [fixGh_box h h1, keyK_stay]
      intro q
      have := (movedK_iff.1 q).1
      omega
end
end Vx
