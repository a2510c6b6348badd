import Derived.Test.YtbnagcgfmlmgnaaWb
import Derived.MapKept
/- An abstract machine over data for this translation, part 3 of 4: what it reads and writes stands for what the program does. No condition. -/
set_option linter.unusedVariables false
set_option linter.unusedSimpArgs false
namespace Vx
open Go Classical
set_option linter.unusedSimpArgs false
set_option linter.unusedVariables false

section
variable {E : Env} {N : Nat} {o : Oper} {σ : Sg}
theorem denseRows_spec {sz : Nat} : ∀ {ps : List (Nat × List T)} {k : Nat} {rows : List (List T)}, denseRows sz k ps = some rows → rows = ps.map (·.2) ∧ (∀ j p, ps[j]? = some p → p.1 = k + j) ∧ ∀ row ∈ rows, row.length = sz
  | [], k, rows, h => by
    simp only [denseRows, Option.some.injEq] at h
    subst h
    exact ⟨rfl, by simp, by simp⟩
  | (i, ts) :: r, k, rows, h => by
    simp only [denseRows] at h
    split at h
    · rename_i hc
      obtain ⟨rfl, h2⟩ := hc
      simp only [Option.map_eq_some_iff] at h
      obtain ⟨rs, h3, rfl⟩ := h
      obtain ⟨i1, i2, i3⟩ := denseRows_spec h3
      refine ⟨by simp [i1], fun j p hj => ?_, fun row hr => ?_⟩
      · cases j with
        | zero => simp at hj; subst hj; rfl
        | succ j => have := i2 j p (by simpa using hj); omega
      · rcases List.mem_cons.1 hr with e | e
        · rw [e]; exact h2
        · exact i3 row e
    · cases h

/-- The parts of a literal: where their cells come from. -/
theorem takeParts_ok : ∀ {parts : List (Nat × Operand)} {f : List (Nat × List T) → List Upd → Rd Eff}, ((takeParts parts f).run σ).ok → ∃ ps us l, (takeParts parts f).run σ = (f ps us).run σ ∧ TkL σ l ((ps.flatMap (·.2)).map C.t) us ∧ ps.map (·.1) = parts.map (·.1) ∧
    ∀ E a w g, Core E σ (Act.tmps a) w g → LIM ≤ g.lim → (∀ p ∈ parts, okOpd p.2 = true) → ∃ vs, CellsOK σ w g l vs ∧ ∀ sz, (∀ p ∈ ps, p.2.length = sz) → ∀ j p, parts[j]? = some p → (a.eval p.2).cells = ((List.range sz).map fun c => vs (j * sz + c)).toArray
  | [], f, h => ⟨[], [], [], rfl, .nil, rfl, fun E a w g _ _ _ => ⟨fun _ => undef, fun j x h => by simp at h, fun sz _ j p h => by simp at h⟩⟩
  | (i, x) :: parts, f, h => by
    simp only [takeParts, takeS] at h ⊢
    obtain ⟨row, e1, hrow⟩ := rdRow_ok h
    rw [e1] at h ⊢
    obtain ⟨ts, us, ht, e2⟩ := takeL_ok h
    rw [e2] at h ⊢
    obtain ⟨ps, vs, l, e3, ht2, hi, hval⟩ := takeParts_ok h
    have hlen : ts.length = row.length := by have := ht.length; simpa using this
    refine ⟨(i, ts) :: ps, us ++ vs, row ++ l, e3, ?_, by simp [hi], fun E a w g hc hl ho => ?_⟩
    · simp only [List.flatMap_cons, List.map_append]
      exact ht.append ht2
    · obtain ⟨v1, c1, d1⟩ := hrow E a w g hc hl (ho (i, x) (by simp))
      obtain ⟨v2, c2, d2⟩ := hval E a w g hc hl fun p hp => ho p (by simp [hp])
      refine ⟨fun j => if j < row.length then v1 j else v2 (j - row.length), fun j y hj => ?_, fun sz hsz j p hj => ?_⟩
      · by_cases hlt : j < row.length
        · rw [List.getElem?_append_left hlt] at hj
          simp only [if_pos hlt]
          exact c1 j y hj
        · rw [List.getElem?_append_right (by omega)] at hj
          simp only [if_neg hlt]
          exact c2 _ y hj
      · have h0 : ts.length = sz := hsz (i, ts) (by simp)
        have hr0 : row.length = sz := by omega
        cases j with
        | zero =>
          simp only [List.getElem?_cons_zero, Option.some.injEq] at hj
          subst hj
          rw [d1, hr0]
          congr 1
          refine List.map_congr_left fun c hc => ?_
          have : c < sz := by simpa using hc
          simp only [Nat.zero_mul, Nat.zero_add, if_pos this]
        | succ j =>
          rw [d2 sz (fun p hp => hsz p (by simp [hp])) j p (by simpa using hj), hr0]
          congr 1
          refine List.map_congr_left fun c hc => ?_
          have e : (j + 1) * sz + c = j * sz + c + sz := by rw [Nat.add_mul]; omega
          simp only [e]
          rw [if_neg (by omega), Nat.add_sub_cancel]

theorem flat_get {rows : List (List T)} {sz : Nat} (hr : ∀ row ∈ rows, row.length = sz) : ∀ {i : Nat} {row : List T} {c : Nat} {t : T}, rows[i]? = some row → row[c]? = some t → (rows.flatMap id)[i * sz + c]? = some t := by
  induction rows with
  | nil => intro i row c t h; simp at h
  | cons r rows ih =>
    intro i row c t h1 h2
    have hrl := hr r (by simp)
    simp only [List.flatMap_cons, id]
    cases i with
    | zero =>
      simp only [List.getElem?_cons_zero, Option.some.injEq] at h1
      subst h1
      have := lt_of_getElem? h2
      rw [Nat.zero_mul, Nat.zero_add, List.getElem?_append_left this]
      exact h2
    | succ i =>
      have e : (i + 1) * sz + c = i * sz + c + sz := by rw [Nat.add_mul]; omega
      rw [e, List.getElem?_append_right (by omega), hrl, Nat.add_sub_cancel]
      exact ih (fun row h => hr row (by simp [h])) (by simpa using h1) h2

theorem run_buildSlice' {P : Program} {w : World} {t e : TypeId} {ie : TypeInfo} {z : Value} {sz n : Nat} {vals : List Value} (hu : P.underlying t = some (.slice e)) (hie : P.info? e = some ie) (hz : ie.zero = some z) (hsz : ie.size = sz) (hpos : 0 < sz) (hzs : z.cells.size = sz) (hn : vals.length = n) (hsmall : n * sz ≤ 2 ^ 24) (hv : ∀ v ∈ vals, v.cells.size = sz) {parts : Array (Nat × Value)}
    (hp : parts.toList = (vals.zipIdx 0).map fun x => (x.2, x.1)) :
    ∃ cs, (Instr.buildSlice t n parts).run P w = .ok (.slice (some ⟨w.heap.size, 0, none⟩) n n) (w.alloc (.cells cs e)) ∧ cs.size = n * sz ∧ ∀ i c v, c < sz → vals[i]? = some v → cs[i * sz + c]? = v.cells[c]? := by
  obtain ⟨cs, h1, h2, h3⟩ := Great.fill_dense hpos vals 0 ((Array.range (n * sz)).map (z.cells[· % z.cells.size]!)) hv (by simp [hn])
  have h2' : cs.size = n * sz := by rw [h2]; simp
  have get : ∀ i c v, c < sz → vals[i]? = some v → cs[i * sz + c]? = v.cells[c]? := by
    intro i c v hc hi
    have hil := lt_of_getElem? hi
    have hlt := row_lt hil hc
    rw [h3, if_pos ⟨by omega, by rw [Nat.zero_add]; exact hlt⟩, div_row _ _ _ hc, mod_row _ _ _ hc, Nat.sub_zero, hi, Option.bind_some]
  by_cases h0 : n * sz = 0
  · have hn0 : n = 0 := by
      rcases Nat.mul_eq_zero.1 h0 with h | h
      · exact h
      · omega
    subst hn0
    have hv0 : vals = [] := List.eq_nil_of_length_eq_zero hn
    subst hv0
    have hcs : cs = #[] := Array.size_eq_zero_iff.1 (by simpa using h2')
    refine ⟨cs, ?_, h2', get⟩
    subst hcs
    have e0 : ∀ f : Nat → Value, Array.map f (Array.range 0) = #[] := fun f => Array.size_eq_zero_iff.1 (by simp)
    simp [Instr.buildSlice, run_underlying hu, Go.sizeOf, typeInfo, hie, hp, Instr.fill, newRow, e0]
  · refine ⟨cs, ?_, h2', get⟩
    exact run_buildSlice w t e n parts cs ie z hu hie hz (by rw [hsz]; omega) (by rw [hsz]; exact h0) (by rw [hp, hsz]; exact h1)

theorem ok_buildSlice (hN : okOper N o = true) {t : TypeId} {n : Nat} {parts : Array (Nat × Operand)} (ho : o.op = .buildSlice t n parts) (h : ((astep E.P o).run σ).ok) : OpOK E N o σ ((astep E.P o).run σ).upd := by
  have hopd : ∀ p ∈ parts.toList, okOpd p.2 = true := fun p hp => okOper_opd hN (by
    rw [ho]
    simp only [Op.operands]
    simp at hp ⊢
    exact ⟨p.1, hp⟩)
  simp only [astep, ho] at h ⊢
  unfold stepBuildSlice at h ⊢
  cases hi : tinfo E.P t with
  | none => rw [hi] at h; exact h.elim
  | some i =>
    obtain ⟨kd, agg, size, bytes, zero, fld, el⟩ := i
    cases el with
    | none => rw [hi] at h; exact h.elim
    | some e =>
      rw [hi] at h
      simp only at h ⊢
      cases hei : tinfo E.P e with
      | none => rw [hei] at h; exact h.elim
      | some ei =>
        rw [hei] at h
        simp only at h ⊢
        obtain ⟨ps, us, l, e1, ht, hidx, hval⟩ := takeParts_ok h
        rw [e1] at h ⊢
        cases hd : denseRows ei.size 0 ps with
        | none => rw [hd] at h; exact h.elim
        | some rows =>
          rw [hd] at h
          simp only at h ⊢
          obtain ⟨r1, r2, r3⟩ := denseRows_spec hd
          obtain ⟨⟨hn, hsm, hz2, hz1⟩, p2, p3⟩ := put_ok h
          obtain ⟨inf, z, a1, a2, a3, a4, a5, a6⟩ := tinfo_zero hei hz1 hz2
          have hu := tinfo_elem hi rfl
          have hpl : ps.length = n := by rw [← hn, r1]; simp
          have hpl2 : parts.toList.length = n := by rw [← hpl]; have := congrArg List.length hidx; simpa using this.symm
          have hlast : ∀ p ∈ ps, p.2.length = ei.size := fun p hp => r3 _ (by rw [r1]; exact List.mem_map.2 ⟨p, hp, rfl⟩)
          have hflat : ps.flatMap (·.2) = rows.flatMap id := by rw [r1, List.flatMap_map]; rfl
          rw [hflat] at ht
          intro a w g hc hs hl K Q hK
          obtain ⟨vs, hcells, hvals⟩ := hval E a w g hc hl hopd
          have hvals := hvals ei.size hlast
          let vals : List Value := parts.toList.map fun p => a.eval p.2
          have hvl : vals.length = n := by simp [vals]; simpa using hpl2
          have hvc : ∀ (i : Nat) v, vals[i]? = some v → v.cells = ((List.range ei.size).map fun c => vs (i * ei.size + c)).toArray := by
            intro i v hi
            simp only [vals, List.getElem?_map, Option.map_eq_some_iff] at hi
            obtain ⟨p, hp, rfl⟩ := hi
            exact hvals i p hp
          obtain ⟨cs, hrun, hcsz, hcg⟩ := run_buildSlice' (P := E.P) (w := w) (t := t) (e := e) (ie := inf) (z := z) (sz := ei.size) (n := n) (vals := vals) hu a1 a2 a5 hz2 a6 hvl hsm (fun v hv => by
            obtain ⟨i, hi⟩ := List.getElem?_of_mem hv
            rw [hvc i v hi]; simp) (parts := parts.map fun (i, x) => (i, a.eval x)) (by
            apply List.ext_getElem?
            intro i
            simp only [Array.toList_map, List.getElem?_map, vals, List.getElem?_zipIdx]
            cases hp : parts.toList[i]? with
            | none => simp
            | some p =>
              have hq : (ps.map (·.1))[i]? = some p.1 := by rw [hidx, List.getElem?_map, hp]; rfl
              simp only [List.getElem?_map, Option.map_eq_some_iff] at hq
              obtain ⟨q, hq1, hq2⟩ := hq
              have := r2 i q hq1
              simp only [Option.map_some, Option.some.injEq, Prod.mk.injEq, and_true]
              omega)
          have hcell : ∀ i c, i < n → c < ei.size → cs[i * ei.size + c]? = some (vs (i * ei.size + c)) := by
            intro i c h1 h2
            have hlt : i < vals.length := by omega
            rw [hcg i c vals[i] h2 (List.getElem?_eq_getElem hlt), hvc i _ (List.getElem?_eq_getElem hlt)]
            simp [h2]
          have hex : (execOp a.eval o).run E.P w = .ok (.value (.slice (some ⟨w.heap.size, 0, none⟩) n n)) (w.alloc (.cells cs e)) := by
            simp only [execOp, ho, Sem.run_bind, hrun, Result.andThen_ok]
            rfl
          unfold Oper.wp
          rw [hex, Oper.upon_value]
          cases hdst : o.dst with
          | none =>
            obtain ⟨e2, hdi⟩ := p3 hdst
            obtain ⟨g', tk, _⟩ := ht.at_root hc hdi (r := .ret) (fun h => h) hcells
            refine hK _ _ _ ?_ (tk.move.trans (fresh_move (w := w) (g := g') (ob := .cells cs e (0, 0)) (tag := .other) (hd := g'.hd) (bl := g'.bl) (fun _ _ => rfl) (fun _ _ _ => rfl))) hs rfl
            rw [e2]
            exact tk.core.fresh (fun _ _ _ _ => rfl) (fun _ _ => rfl)
          | some d =>
            obtain ⟨hnw, e2, hdi⟩ := p2 d hdst
            have hnex : ¬ σ.ex (.new d) := fun h => by simp [Sg.ex, hnw] at h
            obtain ⟨g', tk, hr⟩ := ht.core σ g hc rfl rfl (fun _ _ _ _ h => h) (distinct_left hdi) (fun j => ⟨.new d, 0, [⟨j / ei.size, ei.size, j % ei.size⟩]⟩) vs (fun _ => hnex) (fun i j hij _ => by
              have key : ∀ x y : Nat, x ≠ y → ¬ (⟨.new d, 0, [⟨x / ei.size, ei.size, x % ei.size⟩]⟩ : CA).under ⟨.new d, 0, [⟨y / ei.size, ei.size, y % ei.size⟩]⟩ := by
                rintro x y hne ⟨_, _, s, e⟩
                have hs0 : s = [] := by
                  have := congrArg List.length e
                  simp only [List.length_append, List.length_cons, List.length_nil] at this
                  exact List.eq_nil_of_length_eq_zero (by omega)
                subst hs0
                simp only [List.nil_append, List.cons.injEq, Hop.mk.injEq, true_and, and_true] at e
                have ex := Nat.div_add_mod x ei.size
                have ey := Nat.div_add_mod y ei.size
                rw [e.1, e.2] at ex
                omega
              exact ⟨key _ _ (by omega), key _ _ (by omega)⟩) hcells
            obtain ⟨g2, c2, m2⟩ := tk.core.newslice (d := d) (by rw [hs]; exact dst_lt hN hdst) (by rw [tk.isnew]; exact hnw) (xs := rows) (sz := ei.size) (cap := n) (cs := cs) (el := e) (fun i c => vs (i * ei.size + c)) hcsz (by omega) (by
              have h1 : n ≤ n * ei.size := Nat.le_mul_of_pos_right n hz2
              have h2 : LIM ≤ g'.lim := by rw [tk.move.lim]; exact hl
              have h3 : (2 : Nat) ^ 24 ≤ LIM := by decide
              omega) r3 (fun i c h1 h2 => hcell i c (by omega) h2) (fun i row c t' h1 h2 => by
              have hf := flat_get r3 h1 h2
              have hlt := lt_of_getElem? h2
              have hrl := r3 row (List.mem_of_getElem? h1)
              have := hr (i * ei.size + c) (.t t') (by rw [List.getElem?_map, hf]; rfl)
              rw [div_row _ _ _ (by omega), mod_row _ _ _ (by omega)] at this
              cases this with | t h => exact h)
            rw [hn] at c2
            refine hK _ _ g2 ?_ (tk.move.trans m2) (by simpa [Act.put] using hs) rfl
            rw [e2, upds_append]
            exact c2
end
end Vx

namespace Vx
open Go Classical
set_option linter.unusedSimpArgs false
set_option linter.unusedVariables false

/-! ## Places, written twice and in another order -/
theorem SV.setAt_setAt (sv : SV) (c : Nat) (x y : C) : (sv.setAt c x).setAt c y = sv.setAt c y := by
  cases sv with
  | c u => rfl
  | agg row => simp [SV.setAt]
  | tup l =>
    cases hl : l[c / 64 - 1]? with
    | none => simp [SV.setAt, hl]
    | some z =>
      have hlt := lt_of_getElem? hl
      cases z with
      | c u =>
        simp only [SV.setAt, hl, List.getElem?_set_self hlt, List.set_set]
      | agg row =>
        simp only [SV.setAt, hl, List.getElem?_set_self hlt, List.set_set]
      | tup l' => simp only [SV.setAt, hl]
theorem Sg.setP_setP (σ : Sg) (r : Root) (c : Nat) (x y : C) : (σ.setP r c x).setP r c y = σ.setP r c y := by
  cases r with
  | slot n =>
    simp only [Sg.setP, if_true, SV.setAt_setAt]
    congr 1
    funext m
    by_cases e : m = n <;> simp [e]
  | new n =>
    simp only [Sg.setP, if_true, SV.setAt_setAt]
    congr 1
    funext m
    by_cases e : m = n <;> simp [e]
  | obj k =>
    simp only [Sg.setP, Sg.inr]
    congr 1
    funext i j
    by_cases e : i = k ∧ j = c ∧ inrK (σ.kind k) c = true <;> simp [e]
  | ret => rfl
theorem SV.setAt_comm {sv : SV} {c c' : Nat} (x y : C) (h : ∃ z, sv.cellAt c = some z) (h' : ∃ z, sv.cellAt c' = some z) (hn : c ≠ c') : (sv.setAt c x).setAt c' y = (sv.setAt c' y).setAt c x := by
  obtain ⟨z, h⟩ := h
  obtain ⟨z', h'⟩ := h'
  cases sv with
  | c u =>
    simp only [SV.cellAt] at h h'
    split at h
    · split at h'
      · omega
      · cases h'
    · cases h
  | agg row => simp only [SV.setAt]; rw [List.set_comm _ _ hn]
  | tup l =>
    rw [SV.cellAt] at h h'
    cases hl : l[c / 64 - 1]? with
    | none => rw [hl] at h; cases h
    | some u =>
      cases hl' : l[c' / 64 - 1]? with
      | none => rw [hl'] at h'; cases h'
      | some u' =>
        have hlt := lt_of_getElem? hl
        have hlt' := lt_of_getElem? hl'
        rw [hl] at h
        rw [hl'] at h'
        by_cases e : c / 64 - 1 = c' / 64 - 1
        · rw [← e, hl] at hl'
          cases hl'
          cases u with
          | c u =>
            simp only at h h'
            split at h
            · split at h'
              · omega
              · cases h'
            · cases h
          | agg row =>
            simp only at h h'
            split at h
            · split at h'
              · have : c % 64 ≠ c' % 64 := by omega
                simp only [SV.setAt, hl, ← e, List.getElem?_set_self hlt]
                simp only [List.set_set]
                rw [List.set_comm _ _ this]
              · cases h'
            · cases h
          | tup l' => cases h
        · have s1 : ∀ v, (l.set (c / 64 - 1) v)[c' / 64 - 1]? = some u' := fun v => by rw [List.getElem?_set_ne e]; exact hl'
          have s2 : ∀ v, (l.set (c' / 64 - 1) v)[c / 64 - 1]? = some u := fun v => by rw [List.getElem?_set_ne (fun q => e q.symm)]; exact hl
          cases u with
          | tup _ => cases h
          | c u =>
            cases u' with
            | tup _ => cases h'
            | c u' => simp only [SV.setAt, hl, hl', s1, s2]; rw [List.set_comm _ _ e]
            | agg row => simp only [SV.setAt, hl, hl', s1, s2]; rw [List.set_comm _ _ e]
          | agg row =>
            cases u' with
            | tup _ => cases h'
            | c u' => simp only [SV.setAt, hl, hl', s1, s2]; rw [List.set_comm _ _ e]
            | agg row => simp only [SV.setAt, hl, hl', s1, s2]; rw [List.set_comm _ _ e]
theorem SV.cellAt_setAt_self {sv : SV} {c : Nat} {x y : C} (h : sv.cellAt c = some x) : (sv.setAt c y).cellAt c = some y := by
  cases sv with
  | c u =>
    simp only [SV.cellAt] at h
    split at h
    · rename_i e; subst e; rfl
    · cases h
  | agg row =>
    have := lt_of_getElem? (show row[c]? = some x from h)
    simp only [SV.setAt, SV.cellAt, List.getElem?_set_self this]
  | tup l =>
    rw [SV.cellAt] at h
    cases hl : l[c / 64 - 1]? with
    | none => rw [hl] at h; cases h
    | some u =>
      have hlt := lt_of_getElem? hl
      rw [hl] at h
      cases u with
      | c u =>
        simp only at h
        split at h
        · rename_i e
          simp only [SV.setAt, hl]
          rw [SV.cellAt, List.getElem?_set_self hlt]
          simp only [if_pos e]
        · cases h
      | agg row =>
        simp only at h
        split at h
        · rename_i e
          have := lt_of_getElem? h
          simp only [SV.setAt, hl]
          rw [SV.cellAt, List.getElem?_set_self hlt]
          simp only [if_pos e, List.getElem?_set_self this]
        · cases h
      | tup l' => cases h
theorem Sg.setP_slot_of (σ : Sg) {r : Root} (c : Nat) (x : C) {n : Nat} (h : r = .slot n ∨ r = .new n) : σ.setP r c x = { σ with slot := fun m => if m = n then (σ.slot n).setAt c x else σ.slot m } := by
  rcases h with h | h <;> subst h <;> rfl
theorem Sg.setP_comm {σ : Sg} {r r' : Root} {c c' : Nat} {t t' : T} (x y : C) (h : PlaceIs σ r c t) (h' : PlaceIs σ r' c' t') (hn : ¬ (r' = r ∧ c' = c)) : (σ.setP r c x).setP r' c' y = (σ.setP r' c' y).setP r c x := by
  have cls : ∀ r : Root, r ≠ .ret → (∃ n, r = .slot n ∨ r = .new n) ∨ ∃ k, r = .obj k := by
    intro r hr
    cases r with
    | slot n => exact .inl ⟨n, .inl rfl⟩
    | new n => exact .inl ⟨n, .inr rfl⟩
    | obj k => exact .inr ⟨k, rfl⟩
    | ret => exact absurd rfl hr
  rcases cls r h.nret with ⟨n, e⟩ | ⟨k, e⟩
  · rcases cls r' h'.nret with ⟨n', e'⟩ | ⟨k', e'⟩
    · rw [Sg.setP_slot_of σ c x e, Sg.setP_slot_of σ c' y e', Sg.setP_slot_of _ c' y e', Sg.setP_slot_of _ c x e]
      obtain ⟨f1, f2⟩ := h.slot n e
      obtain ⟨g1, g2⟩ := h'.slot n' e'
      by_cases en : n = n'
      · subst en
        have hc : c ≠ c' := fun q => hn ⟨g1.trans f1.symm, q.symm⟩
        simp only [if_true]
        rw [SV.setAt_comm x y ⟨_, f2⟩ ⟨_, g2⟩ hc]
        congr 1
        funext m
        by_cases em : m = n <;> simp [em]
      · simp only [if_neg en, if_neg (fun q : n' = n => en q.symm)]
        congr 1
        funext m
        by_cases em : m = n
        · have : m ≠ n' := fun q => en (em.symm.trans q)
          rw [if_neg this, if_pos em, if_pos em]
        · rw [if_neg em]
          by_cases em' : m = n'
          · simp only [if_pos em', if_neg em]
          · simp only [if_neg em', if_neg em]
    · subst e'
      rcases e with e | e <;> subst e <;> rfl
  · subst e
    rcases cls r' h'.nret with ⟨n', e'⟩ | ⟨k', e'⟩
    · rcases e' with e' | e' <;> subst e' <;> rfl
    · subst e'
      have A : ∀ (τ : Sg) (k c : Nat) (x : C), τ.setP (.obj k) c x = { τ with cell := fun i j => if i = k ∧ j = c ∧ τ.inr k c = true then x else τ.cell i j } := fun _ _ _ _ => rfl
      have h1 := (h.obj k rfl).1
      have h1' := (h'.obj k' rfl).1
      have h2 : (σ.setP (.obj k) c x).inr k' c' = true := by rw [Sg.setP_inr]; exact h1'
      have h2' : (σ.setP (.obj k') c' y).inr k c = true := by rw [Sg.setP_inr]; exact h1
      rw [A (σ.setP (.obj k) c x), A (σ.setP (.obj k') c' y), h2, h2', A σ k, A σ k', h1, h1']
      simp only [and_true]
      congr 1
      funext i j
      by_cases e1 : i = k ∧ j = c
      · by_cases e2 : i = k' ∧ j = c'
        · exact absurd ⟨by rw [← e2.1, ← e1.1], by omega⟩ hn
        · simp only [if_neg e2, if_pos e1]
      · by_cases e2 : i = k' ∧ j = c'
        · simp only [if_pos e2, if_neg e1]
        · simp only [if_neg e2, if_neg e1]

/-! ## What is lent -/
structure Ln where
  a : CA
  t : T
  y : T
  z : T
structure Lok (σ : Sg) (x : Ln) : Prop where
  pl : PlaceIs σ x.a.root x.a.c x.t
  hat : x.t.at x.a.path = some x.y
  y : x.y.isOwn = true
  z : x.z.isOwn = true
def Ln.upd (f : Ln → T) (x : Ln) : Upd := .set x.a.root x.a.c (x.t.put x.a.path (f x))
def Ln.apart (x y : Ln) : Prop := ¬ (y.a.root = x.a.root ∧ y.a.c = x.a.c)
def lnU (f : Ln → T) (L : List Ln) : List Upd := L.map (Ln.upd f)
theorem Lok.upd {σ : Sg} {x y : Ln} (f : Ln → T) (h : Lok σ x) (h' : Lok σ y) (hn : x.apart y) : Lok (σ.upd (x.upd f)) y := ⟨h.pl.hole h'.pl hn, h'.hat, h'.y, h'.z⟩
theorem Lok.upds {f : Ln → T} : ∀ {L : List Ln} {σ : Sg} {y : Ln}, (∀ x ∈ L, Lok σ x) → Lok σ y → (∀ x ∈ L, x.apart y) → L.Pairwise Ln.apart → Lok (σ.upds (lnU f L)) y
  | [], σ, y, _, h, _, _ => h
  | x :: L, σ, y, hL, h, hn, hp => by
    have hx := hL x (by simp)
    rw [List.pairwise_cons] at hp
    exact Lok.upds (L := L) (fun x' hx' => hx.upd f (hL x' (by simp [hx'])) (hp.1 x' hx')) (hx.upd f h (hn x (by simp))) (fun x' hx' => hn x' (by simp [hx'])) hp.2
theorem lnU_twice {f g : Ln → T} : ∀ {L : List Ln} {σ : Sg}, (∀ x ∈ L, Lok σ x) → L.Pairwise Ln.apart → (σ.upds (lnU f L)).upds (lnU g L) = σ.upds (lnU g L)
  | [], σ, _, _ => rfl
  | x :: L, σ, hL, hp => by
    have hx := hL x (by simp)
    have hp' := List.pairwise_cons.1 hp
    show (((σ.upd (x.upd f)).upds (lnU f L)).upd (x.upd g)).upds (lnU g L) = (σ.upd (x.upd g)).upds (lnU g L)
    have hsym : ∀ x' ∈ L, x'.apart x := fun x' hx' e => hp'.1 x' hx' ⟨e.1.symm, e.2.symm⟩
    have same : ∀ (σ : Sg), (σ.upd (x.upd f)).upd (x.upd g) = σ.upd (x.upd g) := fun σ => Sg.setP_setP _ _ _ _ _
    have hgood : ∀ x' ∈ L, Lok (σ.upd (x.upd f)) x' := fun x' hx' => hx.upd f (hL x' (by simp [hx'])) (hp'.1 x' hx')
    have key : ((σ.upd (x.upd f)).upds (lnU f L)).upd (x.upd g) = ((σ.upd (x.upd f)).upd (x.upd g)).upds (lnU f L) := by
      -- the place of `x` holds other content by now: say it with that
      let x1 : Ln := { x with t := x.t.put x.a.path (f x) }
      have hat := at_put_self (u := f x) hx.hat
      have hpl : PlaceIs (σ.upd (x.upd f)) x.a.root x.a.c (x.t.put x.a.path (f x)) := by
        have h0 := hx.pl
        refine ⟨⟨by show (σ.setP _ _ _).ex _; rw [Sg.setP_ex]; exact h0.ex, fun n e => ?_, fun k e => ?_, h0.nret⟩, by show (σ.setP _ _ _).dirty _ _ = _; rw [Sg.setP_dirty]; exact h0.dirty⟩
        · obtain ⟨e1, e2⟩ := h0.slot n e
          refine ⟨by show _ = (σ.setP _ _ _).rt n; rw [Sg.setP_rt]; exact e1, ?_⟩
          show ((σ.setP x.a.root x.a.c _).slot n).cellAt _ = _
          rw [Sg.setP_slot_of σ _ _ e]
          simp only [if_true]
          exact SV.cellAt_setAt_self e2
        · obtain ⟨e1, e2⟩ := h0.obj k e
          refine ⟨by show (σ.setP _ _ _).inr _ _ = _; rw [Sg.setP_inr]; exact e1, ?_⟩
          show (σ.setP x.a.root x.a.c _).cell k _ = _
          rw [e]
          simp [Sg.setP, e1]
      have goods : ∀ {L : List Ln} {τ : Sg}, (∀ x' ∈ L, Lok τ x') → (∀ x' ∈ L, x'.apart x) → L.Pairwise Ln.apart → (∃ t, PlaceIs τ x.a.root x.a.c t) → ∀ v, (τ.upds (lnU f L)).setP x.a.root x.a.c v = (τ.setP x.a.root x.a.c v).upds (lnU f L) := by
        intro L
        induction L with
        | nil => intro τ _ _ _ _ v; rfl
        | cons y L ih =>
          intro τ h1 h2 h3 h4 v
          obtain ⟨t, h4⟩ := h4
          have hy := h1 y (by simp)
          have h3' := List.pairwise_cons.1 h3
          have := ih (τ := τ.upd (y.upd f)) (fun x' hx' => hy.upd f (h1 x' (by simp [hx'])) (h3'.1 x' hx')) (fun x' hx' => h2 x' (by simp [hx'])) h3'.2 ⟨t, hy.pl.hole h4 (h2 y (by simp))⟩ v
          show ((τ.upd (y.upd f)).upds (lnU f L)).setP x.a.root x.a.c v = ((τ.setP x.a.root x.a.c v).upd (y.upd f)).upds (lnU f L)
          rw [this]
          congr 1
          exact Sg.setP_comm _ _ hy.pl h4 (h2 y (by simp))
      exact goods hgood hsym hp'.2 ⟨_, hpl⟩ _
    rw [key, same]
    exact lnU_twice (fun x' hx' => hx.upd g (hL x' (by simp [hx'])) (hp'.1 x' hx')) hp'.2
end Vx

namespace Vx
open Go Classical
set_option linter.unusedSimpArgs false
set_option linter.unusedVariables false

theorem Core.take1v {E : Env} {σ : Sg} {tmps : Array Value} {w : World} {g : Gh} (hc : Core E σ tmps w g) {x : Ln} (hx : Lok σ x) (q : CA) (hq : ¬ σ.ex q.root) :
    Core E (σ.upd (x.upd fun x => .val (g.hd x.a))) tmps w (g.reg x.a q) ∧ Rep w (g.reg x.a q) q x.y (g.hd x.a) := by
  have hne : ∀ r', σ.ex r' → r' ≠ q.root := fun r' h e => hq (e ▸ h)
  have hkeep : Keeps w w g (g.reg x.a q) σ.dirty σ.dirty σ.ex := ⟨Nat.le_refl _, fun b _ h => ⟨Gh.reg_fz _ _ _ h, rfl⟩,
    fun r' c' h1 h2 => ⟨h2, fun s => Gh.reg_hd _ _ _ fun e => hne _ h1 e.1⟩, fun _ _ => rfl⟩
  have hp := hx.pl
  have own : ∀ v, Rep w g x.a x.y v → v = g.hd x.a := fun v hv => by
    have := hx.y
    unfold T.isOwn at this
    split at this
    · rename_i e; rw [e] at hv; exact hv.own_hd
    · cases this
  refine ⟨hc.setPlace hp.toPlaceAt hkeep (fun r' c' h1 h2 => ?_) (fun b k _ h => ⟨Gh.reg_box _ _ _ h, rfl⟩) (fun b hb => ⟨?_, rfl⟩) (Nat.le_refl _) (fun u hu => ?_), ?_⟩
  · exact Gh.reg_still w g _ _ (fun e => h2 ⟨e.1, e.2⟩) (fun e => hne _ h1 e.1)
  · rw [(hc.glob b hb).1, Gh.reg_other _ _ _ (hc.glob b hb).1]
  · refine Rep.put hu x.a.path hx.hat ⟨Nat.le_refl _, fun b _ h => ⟨Gh.reg_fz _ _ _ h, rfl⟩, fun b a' _ ha hn ho => ⟨?_, rfl⟩, fun a' ha _ => Gh.reg_hd _ _ _ fun e => hne _ hp.ex (ha.1.symm.trans e.1)⟩ (fun v hv => ?_)
    · rw [CA.eta] at hn
      simp only [Gh.reg, ho]
      rw [if_neg hn, if_neg (not_under_of_ne fun e => hne _ hp.ex (ha.1.symm.trans e.1))]
    · rw [CA.eta] at hv
      rw [own v hv]
      exact .fro .val
  · obtain ⟨u, hu⟩ := hp.rep hc
    obtain ⟨v, hv, _⟩ := hu.at hx.hat
    rw [CA.eta] at hv
    rw [← own v hv]
    exact hv.reg

/-- The state is the same but for what is in some places. -/
structure Same (σ σ' : Sg) : Prop where
  isnew : σ'.isnew = σ.isnew
  ex : σ'.ex = σ.ex
  dirty : σ'.dirty = σ.dirty
  kind : σ'.kind = σ.kind
  mp : σ'.mp = σ.mp
theorem Same.refl (σ : Sg) : Same σ σ := ⟨rfl, rfl, rfl, rfl, rfl⟩
theorem Same.trans {a b c : Sg} (h : Same a b) (k : Same b c) : Same a c := ⟨k.isnew.trans h.isnew, k.ex.trans h.ex, k.dirty.trans h.dirty, k.kind.trans h.kind, k.mp.trans h.mp⟩
theorem Ln.same (σ : Sg) (f : Ln → T) (x : Ln) : Same σ (σ.upd (x.upd f)) := ⟨Sg.setP_isnew _ _ _ _, Sg.setP_ex _ _ _ _, Sg.setP_dirty _ _ _ _, Sg.setP_kind _ _ _ _, Sg.setP_mp _ _ _ _⟩
theorem lnU_same (f : Ln → T) : ∀ (L : List Ln) (σ : Sg), Same σ (σ.upds (lnU f L))
  | [], σ => Same.refl σ
  | x :: L, σ => (Ln.same σ f x).trans (lnU_same f L (σ.upd (x.upd f)))

theorem takeAll {E : Env} {tmps : Array Value} {w : World} {H : CA → Value} : ∀ (L : List Ln) (σ : Sg) (g : Gh) (j0 : Nat), (∀ x ∈ L, Lok σ x) → L.Pairwise Ln.apart → Core E σ tmps w g → (∀ x ∈ L, g.hd x.a = H x.a) →
    ∃ g1, Core E (σ.upds (lnU (fun x => .val (H x.a)) L)) tmps w g1 ∧ Move w g w g1 ∧ Keeps w w g g1 σ.dirty σ.dirty σ.ex ∧ (∀ (i : Nat) x, L[i]? = some x → Rep w g1 ⟨.ret, j0 + i, []⟩ x.y (H x.a)) ∧
      (∀ j t v, j < j0 → Rep w g ⟨.ret, j, []⟩ t v → Rep w g1 ⟨.ret, j, []⟩ t v) ∧ (∀ (i : Nat) x, L[i]? = some x → ∀ p, g1.hd ⟨.ret, j0 + i, p⟩ = g1.hd ⟨x.a.root, x.a.c, p ++ x.a.path⟩) ∧ (∀ j p, j < j0 → g1.hd ⟨.ret, j, p⟩ = g.hd ⟨.ret, j, p⟩)
  | [], σ, g, j0, _, _, hc, _ => ⟨g, hc, Move.refl _ _, Keeps.refl _ _ _ _, fun i x h => by simp at h, fun _ _ _ _ h => h, fun i x h => by simp at h, fun _ _ _ => rfl⟩
  | x :: L, σ, g, j0, hL, hp, hc, hH => by
    have hx := hL x (by simp)
    have hp' := List.pairwise_cons.1 hp
    obtain ⟨c1, r1⟩ := hc.take1v hx ⟨.ret, j0, []⟩ (fun h => h)
    have hHx := hH x (by simp)
    rw [hHx] at r1
    have e1 : x.upd (fun x => T.val (g.hd x.a)) = x.upd (fun x => .val (H x.a)) := by simp only [Ln.upd, hHx]
    rw [e1] at c1
    have hnr : ∀ r, σ.ex r → r ≠ .ret := fun r h e => by rw [e] at h; exact h
    have hd1 : ∀ a : CA, σ.ex a.root → (g.reg x.a ⟨.ret, j0, []⟩).hd a = g.hd a := fun a h => Gh.reg_hd _ _ _ fun e => hnr _ h e.1
    have k1 : Keeps w w g (g.reg x.a ⟨.ret, j0, []⟩) σ.dirty σ.dirty σ.ex := ⟨Nat.le_refl _, fun b _ h => ⟨Gh.reg_fz _ _ _ h, rfl⟩, fun r' c' h1 h2 => ⟨h2, fun s => hd1 _ h1⟩, fun _ _ => rfl⟩
    have hsm := Ln.same σ (fun x => .val (H x.a)) x
    obtain ⟨g1, c2, m2, k2, rp, oth, hh, hlow⟩ := takeAll (H := H) L _ _ (j0 + 1) (fun y hy => hx.upd _ (hL y (by simp [hy])) (hp'.1 y hy)) hp'.2 c1 (fun y hy => by rw [hd1 _ (hL y (by simp [hy])).pl.ex]; exact hH y (by simp [hy]))
    rw [hsm.dirty, hsm.ex] at k2
    refine ⟨g1, c2, (Gh.reg_move w g _ _ (fun k e => by cases e)).trans m2, Keeps.trans (Nat.le_refl _) k1 k2, fun i y hi => ?_, fun j t v hj hr => ?_, fun i y hi p => ?_, fun j p hj => ?_⟩
    · cases i with
      | zero =>
        simp only [List.getElem?_cons_zero, Option.some.injEq] at hi
        subst hi
        exact oth j0 _ _ (by omega) r1
      | succ i =>
        have := rp i y (by simpa using hi)
        rw [show j0 + 1 + i = j0 + (i + 1) by omega] at this
        exact this
    · refine oth j t v (by omega) (hr.reg_other (CA.apart_root (fun e => ?_)) (cell_apart _ (by omega) _ _))
      have e : Root.ret = x.a.root := e
      exact hnr _ hx.pl.ex e.symm
    · cases i with
      | zero =>
        simp only [List.getElem?_cons_zero, Option.some.injEq] at hi
        subst hi
        rw [Nat.add_zero, hlow j0 p (by omega), (k2.ref _ _ hx.pl.ex hx.pl.dirty).2, hd1 ⟨x.a.root, x.a.c, p ++ x.a.path⟩ hx.pl.ex]
        have hu : (⟨.ret, j0, p⟩ : CA).under ⟨.ret, j0, []⟩ := ⟨rfl, rfl, p, by simp⟩
        show (if _ then _ else _) = _
        rw [if_pos hu]
        congr 1
        exact reb_app (s := p) (by simp)
      | succ i =>
        have := hh i y (by simpa using hi) p
        rw [show j0 + 1 + i = j0 + (i + 1) by omega] at this
        exact this
    · rw [hlow j p (by omega)]
      exact Gh.reg_hd _ _ _ fun e => by have := e.2; simp only at this; omega

theorem putAll {E : Env} {tmps : Array Value} {w : World} {H : CA → Value} {d : Nat} : ∀ (L : List Ln) (σ : Sg) (g : Gh) (j0 : Nat), σ.isnew d = false → (∀ x ∈ L, PlaceIs σ x.a.root x.a.c (x.t.put x.a.path (.val (H x.a))) ∧ x.t.at x.a.path = some x.y) → L.Pairwise Ln.apart → Core E σ tmps w g →
    (∀ (i : Nat) x, L[i]? = some x → Rep w g ⟨.ret, j0 + i, []⟩ x.z (H x.a) ∧ ∀ p, g.hd ⟨.ret, j0 + i, p⟩ = g.hd ⟨x.a.root, x.a.c, p ++ x.a.path⟩) →
    ∃ g1, Core E (σ.upds (lnU (·.z) L)) tmps w g1 ∧ Move w g w g1 ∧ (∀ a t v, a.root = .new d → Rep w g a t v → Rep w g1 a t v)
  | [], σ, g, j0, _, _, _, hc, _ => ⟨g, hc, Move.refl _ _, fun _ _ _ _ h => h⟩
  | x :: L, σ, g, j0, hn, hL, hp, hc, hr => by
    obtain ⟨hx, hat⟩ := hL x (by simp)
    have hp' := List.pairwise_cons.1 hp
    obtain ⟨hz, hhd⟩ := hr 0 x rfl
    rw [Nat.add_zero] at hz hhd
    have hnr : ∀ r, σ.ex r → r ≠ .ret := fun r h e => by rw [e] at h; exact h
    have hat2 := at_put_self (u := .val (H x.a)) hat
    have hhd' : ∀ a, (g.reg ⟨.ret, j0, []⟩ x.a).hd a = g.hd a := by
      intro a
      show (if a.under x.a then g.hd (reb x.a ⟨.ret, j0, []⟩ a) else g.hd a) = _
      split
      · rename_i hu
        obtain ⟨h1, h2, s, h3⟩ := hu
        rw [reb_app (q := ⟨.ret, j0, []⟩) h3]
        have := hhd s
        simp only [List.append_nil]
        rw [this]
        congr 1
        cases a
        simp_all
      · rfl
    have hkeep : Keeps w w g (g.reg ⟨.ret, j0, []⟩ x.a) σ.dirty σ.dirty σ.ex := ⟨Nat.le_refl _, fun b _ h => ⟨Gh.reg_fz _ _ _ h, rfl⟩, fun r' c' h1 h2 => ⟨h2, fun s => hhd' _⟩, fun _ _ => rfl⟩
    have hmv : Move w g w (g.reg ⟨.ret, j0, []⟩ x.a) := ⟨Nat.le_refl _, rfl, fun b _ h => ⟨by rcases h with h | h <;> simp [Gh.reg, h], rfl⟩, fun _ _ => rfl,
      fun b k _ _ h => ⟨Gh.reg_box g _ _ h, fun cs _ _ hh => ⟨cs, hh, rfl, fun _ _ => rfl⟩⟩, ⟨rfl, rfl, rfl⟩, fun k _ _ _ _ => hhd' _⟩
    have hret : x.a.root ≠ .ret := hnr _ hx.ex
    have hnew : x.a.root ≠ .new d := fun e => by have := hx.ex; rw [e] at this; simp [Sg.ex, hn] at this
    have hc1 : Core E (σ.upd (x.upd (·.z))) tmps w (g.reg ⟨.ret, j0, []⟩ x.a) := by
      refine hc.setPlace hx.toPlaceAt hkeep (fun r' c' h1 h2 => ?_) (fun b k _ h => ⟨Gh.reg_box _ _ _ h, rfl⟩) (fun b hb => ⟨?_, rfl⟩) (Nat.le_refl _) (fun u hu => ?_)
      · refine ⟨fun b s _ ho => ⟨?_, rfl⟩, fun s => hhd' _⟩
        simp only [Gh.reg, ho]
        rw [if_neg (not_under_of_ne (a := ⟨r', c', s⟩) fun e => hnr _ h1 e.1), if_neg (not_under_of_ne (a := ⟨r', c', s⟩) fun e => h2 e)]
      · rw [(hc.glob b hb).1, Gh.reg_other _ _ _ (hc.glob b hb).1]
      · have := Rep.put (w' := w) (g' := g.reg ⟨.ret, j0, []⟩ x.a) (y := x.z) hu x.a.path hat2 ⟨Nat.le_refl _, fun b _ h => ⟨Gh.reg_fz _ _ _ h, rfl⟩, fun b a' _ ha hn ho => ⟨?_, rfl⟩, fun a' ha _ => hhd' _⟩ (fun v hv => ?_)
        · rw [put_put hat] at this
          exact this
        · rw [CA.eta] at hn
          simp only [Gh.reg, ho]
          rw [if_neg (not_under_of_ne fun e => hret (ha.1.symm.trans e.1)), if_neg hn]
        · cases hv with
          | fro hv =>
            cases hv
            rw [CA.eta]
            exact hz.reg
    have hsm := Ln.same σ (·.z) x
    have oth : ∀ a t v, (∀ p, a.apart ⟨x.a.root, x.a.c, p⟩) → (∀ p, a.apart ⟨.ret, j0, p⟩) → Rep w g a t v → Rep w (g.reg ⟨.ret, j0, []⟩ x.a) a t v := by
      intro a t v h1 h2 h
      refine h.reg_other (h2 []) ?_
      have := h1 x.a.path
      exact this
    obtain ⟨g1, c2, m2, r2⟩ := putAll (H := H) (d := d) L _ _ (j0 + 1) ((congrFun hsm.isnew d).trans hn) (fun y hy => ⟨hx.hole (hL y (by simp [hy])).1 (hp'.1 y hy), (hL y (by simp [hy])).2⟩) hp'.2 hc1 (fun i y hi => by
      obtain ⟨q1, q2⟩ := hr (i + 1) y (by simpa using hi)
      rw [show j0 + (i + 1) = j0 + 1 + i by omega] at q1 q2
      refine ⟨oth _ _ _ (fun p => CA.apart_root (fun e => hret ?_)) (fun p => cell_apart _ (by omega) _ _) q1, fun p => by rw [hhd', hhd']; exact q2 p⟩
      have e : Root.ret = x.a.root := e
      exact e.symm)
    refine ⟨g1, c2, hmv.trans m2, fun a t v ha h => r2 a t v ha (oth a t v (fun p => CA.apart_root fun e => hnew ?_) (fun p => CA.apart_root fun e => ?_) h)⟩
    · have e : a.root = x.a.root := e
      rw [← e]; exact ha
    · rw [ha] at e; cases e
end Vx

namespace Vx
open Go Classical
set_option linter.unusedSimpArgs false
set_option linter.unusedVariables false

/-! ## Calls that write into what they are lent -/
inductive Lend (as : List CA) : C → C → Prop where
  | t {y} (h : C.isOwn (.t y) = false) : Lend as (.t y) (.t y)
  | ref {a j} (h : as[j]? = some a) : Lend as (.ref a) (.ref ⟨.obj j, 0, []⟩)
  | fp {row c} : Lend as (.fp row c) (.fp row c)
inductive LendA (E : Env) (σ : Sg) (as : List CA) : List Operand → List SV → Prop where
  | nil : LendA E σ as [] []
  | c {x y z l m} (hx : ∀ a w g, Core E σ (Act.tmps a) w g → LIM ≤ g.lim → okOpd x = true → SVRep w g σ.dirty .ret 0 (.c y) (a.eval x)) (h : Lend as y z) (t : LendA E σ as l m) : LendA E σ as (x :: l) (.c z :: m)
  | agg {x row zs l m} (hx : ∀ a w g, Core E σ (Act.tmps a) w g → LIM ≤ g.lim → okOpd x = true → SVRep w g σ.dirty .ret 0 (.agg row) (a.eval x)) (hl : zs.length = row.length) (h : ∀ (j : Nat) y z, row[j]? = some y → zs[j]? = some z → Lend as y z) (t : LendA E σ as l m) : LendA E σ as (x :: l) (.agg zs :: m)
section
variable {E : Env} {N : Nat} {o : Oper} {σ : Sg}
theorem lendC_ok {x : C} {j : Nat} {f : C → List CA → Rd Eff} (hx : x.isOwn = false) (h : ((lendC x j f).run σ).ok) : ∃ z as, (lendC x j f).run σ = (f z as).run σ ∧ ∀ pre suf : List CA, pre.length = j → Lend (pre ++ as ++ suf) x z := by
  cases x with
  | t y => exact ⟨_, _, rfl, fun _ _ _ => .t hx⟩
  | ref a => exact ⟨_, _, rfl, fun pre suf e => .ref (by subst e; simp)⟩
  | fp row c => exact ⟨_, _, rfl, fun _ _ _ => .fp⟩
  | _ => exact h.elim
theorem lendL_ok : ∀ {l : List C} {j : Nat} {f : List C → List CA → Rd Eff}, (∀ x ∈ l, x.isOwn = false) → ((lendL l j f).run σ).ok → ∃ zs as, (lendL l j f).run σ = (f zs as).run σ ∧ zs.length = l.length ∧
    ∀ pre suf : List CA, pre.length = j → ∀ (i : Nat) y z, l[i]? = some y → zs[i]? = some z → Lend (pre ++ as ++ suf) y z
  | [], j, f, _, h => ⟨[], [], rfl, rfl, fun _ _ _ i y z h => by simp at h⟩
  | x :: l, j, f, hl, h => by
    simp only [lendL] at h ⊢
    obtain ⟨z, as, e1, h1⟩ := lendC_ok (hl x (by simp)) h
    rw [e1] at h ⊢
    obtain ⟨zs, bs, e2, h2, h3⟩ := lendL_ok (fun y hy => hl y (by simp [hy])) h
    refine ⟨z :: zs, as ++ bs, e2, by simp [h2], fun pre suf e i y u hy hu => ?_⟩
    cases i with
    | zero =>
      simp only [List.getElem?_cons_zero, Option.some.injEq] at hy hu
      subst hy hu
      have := h1 pre (bs ++ suf) e
      simpa [List.append_assoc] using this
    | succ i =>
      have := h3 (pre ++ as) suf (by simp [e]) i y u (by simpa using hy) (by simpa using hu)
      simpa [List.append_assoc] using this
theorem lendArgs_ok {E : Env} : ∀ {l : List Operand} {j : Nat} {f : List SV → List CA → Rd Eff}, ((lendArgs l j f).run σ).ok → ∃ fa as, (lendArgs l j f).run σ = (f fa as).run σ ∧ ∀ pre suf : List CA, pre.length = j → LendA E σ (pre ++ as ++ suf) l fa
  | [], j, f, h => ⟨[], [], rfl, fun _ _ _ => .nil⟩
  | x :: l, j, f, h => by
    simp only [lendArgs] at h ⊢
    obtain ⟨sv, e, hr, e2, e3, _⟩ := rdS_ok2 h
    rw [e] at h ⊢
    cases sv with
    | c y =>
      simp only at h ⊢
      obtain ⟨z, as, e1, h1⟩ := lendC_ok (e3 _ rfl y (by simp)) h
      rw [e1] at h ⊢
      obtain ⟨fa, bs, e4, h4⟩ := lendArgs_ok (E := E) h
      refine ⟨_, as ++ bs, e4, fun pre suf e => .c (fun a w g hc hl ho => e2 E a w g hc hl ho .ret) ?_ ?_⟩
      · have := h1 pre (bs ++ suf) e
        simpa [List.append_assoc] using this
      · have := h4 (pre ++ as) suf (by simp [e])
        simpa [List.append_assoc] using this
    | agg row =>
      simp only at h ⊢
      obtain ⟨zs, as, e1, h0, h1⟩ := lendL_ok (e3 _ rfl) h
      rw [e1] at h ⊢
      obtain ⟨fa, bs, e4, h4⟩ := lendArgs_ok (E := E) h
      refine ⟨_, as ++ bs, e4, fun pre suf e => .agg (fun a w g hc hl ho => e2 E a w g hc hl ho .ret) h0 (fun j y z hy hz => ?_) ?_⟩
      · have := h1 pre (bs ++ suf) e j y z hy hz
        simpa [List.append_assoc] using this
      · have := h4 (pre ++ as) suf (by simp [e])
        simpa [List.append_assoc] using this
    | tup l => exact h.elim
theorem lendAt_ok : ∀ {as : List CA} {out : List AR} {f : List AR → List Upd → Rd Eff}, ((lendAt as out f).run σ).ok → ∃ L : List Ln, (∀ x ∈ L, Lok σ x) ∧ as = L.map (·.a) ∧ out = L.map (fun x => .virt x.z) ∧ (lendAt as out f).run σ = (f (L.map fun x => .virt x.y) (lnU (·.z) L)).run σ
  | [], [], f, h => ⟨[], by simp, rfl, rfl, rfl⟩
  | [], _ :: _, f, h => h.elim
  | a :: as, [], f, h => h.elim
  | a :: as, .box _ :: out, f, h => h.elim
  | a :: as, .map _ :: out, f, h => h.elim
  | a :: as, .mbox _ :: out, f, h => h.elim
  | a :: as, .mmap _ :: out, f, h => h.elim
  | a :: as, .virt z :: out, f, h => by
    simp only [lendAt] at h ⊢
    obtain ⟨t, y, e, hat, hp⟩ := deref_is h
    rw [e] at h ⊢
    by_cases hb : (y.isOwn && z.isOwn) = true
    · rw [if_pos hb] at h ⊢
      simp only [Bool.and_eq_true] at hb
      obtain ⟨L, h1, h2, h3, h4⟩ := lendAt_ok h
      exact ⟨⟨a, t, y, z⟩ :: L, fun x hx => by
        rcases List.mem_cons.1 hx with e | e
        · subst e; exact ⟨hp, hat, hb.1, hb.2⟩
        · exact h1 x e, by simp [h2], by simp [h3], h4⟩
    · rw [if_neg hb] at h; exact h.elim
theorem lnU_keys (f : Ln → T) : ∀ (L : List Ln), (keysOf (lnU f L)).Nodup → L.Pairwise Ln.apart
  | [], _ => .nil
  | x :: L, h => by
    simp only [lnU, List.map_cons, keysOf, Ln.upd, Upd.key, List.singleton_append, List.nodup_cons] at h
    refine List.pairwise_cons.2 ⟨fun y hy e => h.1 ?_, lnU_keys f L h.2⟩
    refine keysOf_mem (u := Ln.upd f y) (List.mem_map.2 ⟨y, hy, rfl⟩) ?_
    simp [Ln.upd, Upd.key, e.1, e.2]

/-- The callee's ghost. -/
noncomputable def lentGh (m : Nat) (g : Gh) : Gh :=
  { g with
    ow := fun b => match g.ow b with
      | .own a => if a.root = .ret ∧ a.c < m then .own ⟨.obj a.c, 0, a.path⟩ else .other
      | .box _ => .other
      | t => t
    hd := fun a => match a.root with
      | .obj k => if k < m ∧ a.c = 0 then g.hd ⟨.ret, k, a.path⟩ else g.hd a
      | _ => g.hd a
    bl := fun _ => (0, 0, 0) }
def Tag.isOwn : Tag → Bool
  | .own _ => true
  | _ => false
/-- The caller's, after. -/
noncomputable def homeGh (n m d : Nat) (g gl gh : Gh) : Gh :=
  { g with
    ow := fun b => if b < n ∧ (gl.ow b).isOwn = false then g.ow b else match gh.ow b with
      | .own a => match a.root with
        | .ret => .own { a with root := .new d }
        | .obj k => if k < m ∧ a.c = 0 then .own ⟨.ret, k, a.path⟩ else .other
        | _ => .other
      | .box _ => .other
      | t => t
    hd := fun a => if a.root = .new d then gh.hd { a with root := .ret } else g.hd a }
theorem lk_visOf : ∀ (L : List Ln) (n k : Nat) (f : Ln → T), lk k (visOf n (L.map fun x => AR.virt (f x))) = if n ≤ k then (L[k - n]?).map fun x => C.t (f x) else none
  | [], n, k, f => by simp [visOf, lk]
  | x :: L, n, k, f => by
    simp only [List.map_cons, visOf, lk, lk_visOf L]
    by_cases e : k = n
    · subst e; simp
    · rw [if_neg e]
      by_cases h : n + 1 ≤ k
      · rw [if_pos h, if_pos (by omega), show k - n = (k - (n + 1)) + 1 by omega, List.getElem?_cons_succ]
      · rw [if_neg h, if_neg (by omega)]
theorem obsOf_virt (L : List Ln) (f : Ln → T) : ∀ n, obsOf n (L.map fun x => AR.virt (f x)) = [] := by
  induction L with
  | nil => intro n; rfl
  | cons x L ih => intro n; simp only [List.map_cons, obsOf]; exact ih _
theorem mpsOf_virt (L : List Ln) (f : Ln → T) : ∀ n, mpsOf n (L.map fun x => AR.virt (f x)) = [] := by
  induction L with
  | nil => intro n; rfl
  | cons x L ih => intro n; simp only [List.map_cons, mpsOf]; exact ih _
theorem virt_kind (fa : List SV) (L : List Ln) (f : Ln → T) (k : Nat) : (entrySt fa (L.map fun x => AR.virt (f x))).kind k = (L[k]?).map fun _ => Kind.virt := by
  simp only [St.kind, entrySt, obsOf_virt, lk, lk_visOf]
  simp
  cases L[k]? <;> rfl
theorem virt_cell (fa : List SV) (L : List Ln) (f : Ln → T) (k c : Nat) : (entrySt fa (L.map fun x => AR.virt (f x))).cell k c = match L[k]? with | some x => if c = 0 then .t (f x) else .t .top | none => .t .top := by
  simp only [St.cell, entrySt, obsOf_virt, lk, lk_visOf]
  simp
  cases L[k]? <;> rfl

theorem LendA.spec {as : List CA} {l : List Operand} {fa : List SV} (h : LendA E σ as l fa) : fa.length = l.length ∧ (∀ z ∈ fa, z.flat = true ∧ ∀ r ∈ z.roots, ∃ j, r = .obj j ∧ j < as.length) ∧
    ∀ (a : Act) (w : World) (g gl : Gh), Core E σ a.tmps w g → LIM ≤ g.lim → (∀ x ∈ l, okOpd x = true) → (∀ (x z : C) (v : Value) (a1 a2 : CA), Lend as x z → CRep w g σ.dirty a1 x v → CRep w gl noDirt a2 z v) →
      ∀ (n : Nat) (x : Operand) (z : SV) (r : Root), l[n]? = some x → fa[n]? = some z → SVRep w gl noDirt r 0 z (a.eval x) := by
  have roots : ∀ {x z : C}, Lend as x z → ∀ r ∈ z.roots, ∃ j, r = .obj j ∧ j < as.length := by
    intro x z h r hr
    cases h with
    | t => simp [C.roots] at hr
    | ref h =>
      simp only [C.roots, List.mem_singleton] at hr
      exact ⟨_, hr, lt_of_getElem? h⟩
    | fp => simp [C.roots] at hr
  induction h with
  | nil => exact ⟨rfl, by simp, fun a w g gl _ _ _ _ n x z r h => by simp at h⟩
  | @c x y z l m hx h t ih =>
    obtain ⟨i1, i2, i3⟩ := ih
    refine ⟨by simp [i1], fun u hu => ?_, fun a w g gl hc hl ho hcell n x' z' r hn hz => ?_⟩
    · rcases List.mem_cons.1 hu with e | e
      · subst e; exact ⟨rfl, fun r hr => roots h r hr⟩
      · exact i2 u e
    · cases n with
      | zero =>
        simp only [List.getElem?_cons_zero, Option.some.injEq] at hn hz
        subst hn hz
        have := hx a w g hc hl (ho _ (by simp))
        cases this with | c this => exact .c (hcell _ _ _ _ _ h this)
      | succ n => exact i3 a w g gl hc hl (fun x hx => ho x (by simp [hx])) hcell n x' z' r (by simpa using hn) (by simpa using hz)
  | @agg x row zs l m hx hlen h t ih =>
    obtain ⟨i1, i2, i3⟩ := ih
    refine ⟨by simp [i1], fun u hu => ?_, fun a w g gl hc hl ho hcell n x' z' r hn hz => ?_⟩
    · rcases List.mem_cons.1 hu with e | e
      · subst e
        refine ⟨rfl, fun r hr => ?_⟩
        simp only [SV.roots] at hr
        obtain ⟨z, hz, hr⟩ := C.mem_rootsL.1 hr
        obtain ⟨j, hj⟩ := List.getElem?_of_mem hz
        have hlt := lt_of_getElem? hj
        have hlt' : j < row.length := by omega
        exact roots (h j row[j] z (List.getElem?_eq_getElem hlt') hj) r hr
      · exact i2 u e
    · cases n with
      | zero =>
        simp only [List.getElem?_cons_zero, Option.some.injEq] at hn hz
        subst hn hz
        have := hx a w g hc hl (ho _ (by simp))
        revert this
        generalize a.eval x = v
        intro this
        cases this with
        | agg vs this =>
          rw [← hlen]
          refine .agg vs fun k z hk => ?_
          have hlt := lt_of_getElem? hk
          have hlt' : k < row.length := by omega
          exact hcell _ _ _ _ _ (h k row[k] z (List.getElem?_eq_getElem hlt') hk) (this k _ (List.getElem?_eq_getElem hlt'))
      | succ n => exact i3 a w g gl hc hl (fun x hx => ho x (by simp [hx])) hcell n x' z' r (by simpa using hn) (by simpa using hz)

theorem PlaceIs.lnU {f : Ln → T} : ∀ {L : List Ln} {σ : Sg} {r : Root} {c : Nat} {t : T}, PlaceIs σ r c t → (∀ y ∈ L, Lok σ y) → (∀ y ∈ L, ¬ (r = y.a.root ∧ c = y.a.c)) → L.Pairwise Ln.apart → PlaceIs (σ.upds (lnU f L)) r c t
  | [], σ, r, c, t, h, _, _, _ => h
  | y :: L, σ, r, c, t, h, hL, hn, hp => by
    have hy := hL y (by simp)
    have hp' := List.pairwise_cons.1 hp
    exact PlaceIs.lnU (L := L) (hy.pl.hole h (hn y (by simp))) (fun y' hy' => hy.upd f (hL y' (by simp [hy'])) (hp'.1 y' hy')) (fun y' hy' => hn y' (by simp [hy'])) hp'.2
theorem Lok.self {x : Ln} (hx : Lok σ x) (u : T) : PlaceIs (σ.upd (.set x.a.root x.a.c u)) x.a.root x.a.c u := by
  have h0 := hx.pl
  refine ⟨⟨by show (σ.setP _ _ _).ex _; rw [Sg.setP_ex]; exact h0.ex, fun n e => ?_, fun k e => ?_, h0.nret⟩, by show (σ.setP _ _ _).dirty _ _ = _; rw [Sg.setP_dirty]; exact h0.dirty⟩
  · obtain ⟨e1, e2⟩ := h0.slot n e
    refine ⟨by show _ = (σ.setP _ _ _).rt n; rw [Sg.setP_rt]; exact e1, ?_⟩
    show ((σ.setP x.a.root x.a.c _).slot n).cellAt _ = _
    rw [Sg.setP_slot_of σ _ _ e]
    simp only [if_true]
    exact SV.cellAt_setAt_self e2
  · obtain ⟨e1, e2⟩ := h0.obj k e
    refine ⟨by show (σ.setP _ _ _).inr _ _ = _; rw [Sg.setP_inr]; exact e1, ?_⟩
    show (σ.setP x.a.root x.a.c _).cell k _ = _
    rw [e]
    simp [Sg.setP, e1]
theorem lnU_place {f : Ln → T} : ∀ {L : List Ln} {σ : Sg}, (∀ y ∈ L, Lok σ y) → L.Pairwise Ln.apart → ∀ x ∈ L, PlaceIs (σ.upds (lnU f L)) x.a.root x.a.c (x.t.put x.a.path (f x))
  | [], σ, _, _, x, hx => by cases hx
  | y :: L, σ, hL, hp, x, hx => by
    have hy := hL y (by simp)
    have hp' := List.pairwise_cons.1 hp
    have hrest : ∀ y' ∈ L, Lok (σ.upd (y.upd f)) y' := fun y' hy' => hy.upd f (hL y' (by simp [hy'])) (hp'.1 y' hy')
    rcases List.mem_cons.1 hx with e | e
    · subst e
      exact PlaceIs.lnU (L := L) (hy.self _) hrest (fun y' hy' e => hp'.1 y' hy' ⟨e.1.symm, e.2.symm⟩) hp'.2
    · exact lnU_place (L := L) hrest hp'.2 x e

theorem callM_ok (hN : okOper N o = true) {f : Nat} {xs : Array Operand} {ats : Array TypeId} {an : Ans} (ho : o.op = .call { callee := .value (.func f), args := xs, argTypes := ats })
    (h : ((stepCallM (Returns E) o f xs.toList an).run σ).ok) : OpOK E N o σ ((stepCallM (Returns E) o f xs.toList an).run σ).upd := by
  have hopd : ∀ x ∈ xs.toList, okOpd x = true := fun x hx => okOper_opd hN (by
    rw [ho]
    simp only [Op.operands, Call.operands]
    simp at hx
    simp [hx])
  unfold stepCallM at h ⊢
  obtain ⟨fa, as, e1, hA⟩ := lendArgs_ok (E := E) h
  rw [e1] at h ⊢
  have hA := hA [] [] rfl
  simp only [List.nil_append, List.append_nil] at hA
  obtain ⟨L, hL, has, hout, e2⟩ := lendAt_ok h
  rw [e2] at h ⊢
  by_cases hb : (o.dst.isSome && decide (as.length ≤ 1000)) = true
  · rw [if_pos hb] at h ⊢
    simp only [Bool.and_eq_true, decide_eq_true_eq] at hb
    obtain ⟨hds, hlen⟩ := hb
    obtain ⟨d, hd⟩ := Option.isSome_iff_exists.1 hds
    obtain ⟨⟨hdata, hret⟩, p2, _⟩ := put_ok h
    obtain ⟨hn, e5, hdi⟩ := p2 d hd
    obtain ⟨hcall, hrun⟩ := hret
    have hap := lnU_keys _ L ((distinct_iff _).1 (distinct_left hdi))
    have hml : as.length = L.length := by rw [has]; simp
    have hasL : ∀ (j : Nat) a, as[j]? = some a → ∃ x, L[j]? = some x ∧ x.a = a := by
      intro j a hj
      rw [has, List.getElem?_map, Option.map_eq_some_iff] at hj
      exact hj
    intro a w g hc hs hl K Q hK
    obtain ⟨g1, c1, m1, k1, rp, _, hh, _⟩ := takeAll (H := g.hd) L σ g 0 hL hap hc (fun _ _ => rfl)
    simp only [Nat.zero_add] at rp hh
    have sm := lnU_same (fun x => .val (g.hd x.a)) L σ
    generalize hσ1 : σ.upds (lnU (fun x => T.val (g.hd x.a)) L) = σ1 at c1 sm
    have hk1hd : ∀ x ∈ L, ∀ p, g1.hd ⟨x.a.root, x.a.c, p⟩ = g.hd ⟨x.a.root, x.a.c, p⟩ := fun x hx p => (k1.ref _ _ (hL x hx).pl.ex (hL x hx).pl.dirty).2 p
    generalize hgl : lentGh L.length g1 = gl
    have glhd : ∀ (k : Nat) x, L[k]? = some x → ∀ p, gl.hd ⟨.obj k, 0, p⟩ = g1.hd ⟨.ret, k, p⟩ := by
      intro k x hk p
      have := lt_of_getElem? hk
      subst hgl
      simp [lentGh, this]
    have gltop : ∀ (k : Nat) x, L[k]? = some x → gl.hd ⟨.obj k, 0, []⟩ = g.hd x.a := by
      intro k x hk
      rw [glhd k x hk, hh k x hk, hk1hd x (List.mem_of_getElem? hk), List.nil_append]
    have glfz : ∀ b, g1.ow b = .frozen → gl.ow b = .frozen := fun b hb => by subst hgl; simp [lentGh, hb]
    have gllim : gl.lim = g.lim := by subst hgl; exact m1.lim
    have glnew : ∀ b, g1.ow b = .frozen ∨ g1.ow b = .other → gl.ow b = g1.ow b := fun b hb => by subst hgl; rcases hb with hb | hb <;> simp [lentGh, hb]
    have glbox : ∀ b k, g1.ow b = .box k → gl.ow b = .other := fun b k hb => by subst hgl; simp [lentGh, hb]
    have glown : ∀ b a, g1.ow b = .own a → a.root ≠ .ret → gl.ow b = .other := fun b a hb ha => by subst hgl; simp [lentGh, hb, ha]
    have glret : ∀ b a, g1.ow b = .own a → a.root = .ret → a.c < L.length → gl.ow b = .own ⟨.obj a.c, 0, a.path⟩ := fun b a hb ha hc => by subst hgl; simp [lentGh, hb, ha, hc]
    have glcase : ∀ b, (gl.ow b).isOwn = false → gl.ow b = .frozen ∨ gl.ow b = .other := by
      intro b
      subst hgl
      simp only [lentGh]
      cases g1.ow b with
      | own a => simp only; split <;> simp [Tag.isOwn]
      | box k => simp
      | frozen => simp
      | other => simp
    have glback : ∀ b, gl.ow b = .frozen → g1.ow b = .frozen := by
      intro b
      subst hgl
      simp only [lentGh]
      cases g1.ow b with
      | own a => simp only; split <;> simp
      | box k => simp
      | frozen => simp
      | other => simp
    obtain ⟨s1, s2, s3⟩ := hA.spec
    have hargs := s3 a w g gl hc hl hopd (fun x z v a1 a2 hx hr => by
      cases hx with
      | t hx =>
        cases hr with
        | t hr => exact .t (.fro ((hr.isFro fun sz xs e => by subst e; simp [C.isOwn] at hx).frame (by rw [gllim]; exact Nat.le_refl _) fun b hb h => ⟨glfz b (k1.fz b hb h).1, rfl⟩))
      | ref hj =>
        obtain ⟨y, hy, rfl⟩ := hasL _ _ hj
        cases hr with
        | ref hr h1 => exact .ref (fun _ => by rw [gltop _ y hy]; exact hr (hL y (List.mem_of_getElem? hy)).pl.dirty) h1
      | fp =>
        cases hr with
        | fp vs hh' ho' hcell hrec => exact .fp vs hh' (glfz _ (k1.fz _ (lt_of_heap hh') ho').1) hcell fun j x hj => (hrec j x hj).frame (by rw [gllim]; exact Nat.le_refl _) fun b hb h => ⟨glfz b (k1.fz b hb h).1, rfl⟩)
    have hvals : ∀ (n : Nat) (z : SV) (r : Root), fa[n]? = some z → SVRep w gl noDirt r 0 z ((xs.map a.eval).getD n undef) := by
      intro n z r hn'
      have hlt := lt_of_getElem? hn'
      have hlt' : n < xs.toList.length := by omega
      have := hargs n xs.toList[n] z r (List.getElem?_eq_getElem hlt') hn'
      have e2 : (xs.map a.eval).getD n undef = a.eval xs.toList[n] := by
        have hlt2 : n < xs.size := by simpa using hlt'
        simp [Array.getD_eq_getD_getElem?, hlt2]
      rw [e2]
      exact this
    have hent : Core E (entrySt fa (L.map fun x => AR.virt x.y)).sg (xs.map a.eval) w gl := by
      refine ⟨fun n => ?_, fun n => ?_, fun n r hr => ?_, fun k c r hr => ?_, fun k kd hk => ?_, fun k es hk => ?_, fun b hb => ?_, hc.size⟩
      · show SVRep w _ noDirt (.slot n) 0 ((entrySt fa _).slot n) _
        rw [entry_slot]
        cases hn' : fa[n]? with
        | none => exact .c (.t (.fro .top))
        | some z => exact hvals n z _ hn'
      · show ((entrySt fa _).slot n).flat = true
        rw [entry_slot]
        cases hn' : fa[n]? with
        | none => rfl
        | some z => exact (s2 z (List.mem_of_getElem? hn')).1
      · have hr : r ∈ ((entrySt fa _).slot n).roots := hr
        rw [entry_slot] at hr
        cases hn' : fa[n]? with
        | none => rw [hn'] at hr; simp [SV.roots, C.roots] at hr
        | some z =>
          rw [hn'] at hr
          obtain ⟨j, rfl, hj⟩ := (s2 z (List.mem_of_getElem? hn')).2 r hr
          exact .inl (by omega)
      · have hr : r ∈ ((entrySt fa (L.map fun x => AR.virt x.y)).cell k c).roots := hr
        rw [virt_cell] at hr
        split at hr
        · split at hr <;> simp [C.roots] at hr
        · simp [C.roots] at hr
      · have hk : (entrySt fa (L.map fun x => AR.virt x.y)).kind k = some kd := hk
        rw [virt_kind, Option.map_eq_some_iff] at hk
        obtain ⟨x, hx, rfl⟩ := hk
        have hlt := lt_of_getElem? hx
        refine ⟨g.hd x.a, ?_⟩
        have e : (entrySt fa (L.map fun x => AR.virt x.y)).sg.cell k 0 = .t x.y := by
          show (entrySt fa (L.map fun x => AR.virt x.y)).cell k 0 = _
          rw [virt_cell, hx]
          simp
        rw [e]
        refine .t (Rep.map (w' := w) (g' := gl) (fun a' => ⟨.obj k, 0, a'.path⟩) (rp k x hx) (by rw [gllim, m1.lim]; exact Nat.le_refl _) (fun _ _ _ => rfl) (fun b _ hb => ⟨glfz b hb, rfl⟩) (fun b a' _ ha hb => ⟨?_, rfl⟩) (fun a' ha => ?_))
        · rw [glret b a' hb ha.1 (by rw [ha.2.1]; exact hlt), ha.2.1]
        · rw [glhd k x hx]
          congr 1
          obtain ⟨q1, q2, _⟩ := ha
          cases a'
          simp_all
      · have hk : lk k (mpsOf 0 (L.map fun x => AR.virt x.y)) = some es := hk
        rw [mpsOf_virt] at hk
        cases hk
      · obtain ⟨q1, q2⟩ := c1.glob b hb
        exact ⟨by rw [glnew b (.inr q1)]; exact q1, q2⟩
    have hex : (execOp a.eval o).run E.P w = .ok (.enter f (xs.map a.eval)) w := by
      simp only [execOp, ho, resolve, Act.eval, Deferred.ofValue, Sem.run_bind, Sem.run_pure, Result.andThen_ok, invoke]
      simpa using hcall (xs.map a.eval) w
    unfold Oper.wp
    rw [hex, Oper.upon_enter]
    refine Calls.mono (hrun w gl _ (by rw [gllim]; exact hl) (by simp [s1]) hent) fun e w' he => ?_
    cases e with
    | panicked c => exact he.elim
    | outgrown => exact he.elim
    | returned v =>
      obtain ⟨gh, hres, hco, hmv⟩ := he
      simp only
      generalize hg2 : homeGh w.heap.size L.length d g1 gl gh = g2
      have hmem : ∀ b, b < w.heap.size → (gl.ow b).isOwn = false → gh.ow b = gl.ow b ∧ w'.heap[b]? = w.heap[b]? := fun b hb h => hmv.keep b hb (glcase b h)
      have how : ∀ b, b < w.heap.size → (gl.ow b).isOwn = false → g2.ow b = g1.ow b := fun b hb h => by subst hg2; simp only [homeGh]; rw [if_pos ⟨hb, h⟩]
      have hnew : ∀ b, ¬ (b < w.heap.size ∧ (gl.ow b).isOwn = false) → g2.ow b = match gh.ow b with
          | .own a => (match a.root with
            | .ret => .own { a with root := .new d }
            | .obj k => if k < L.length ∧ a.c = 0 then .own ⟨.ret, k, a.path⟩ else .other
            | _ => .other)
          | .box _ => .other
          | t => t := fun b hb => by subst hg2; simp only [homeGh]; rw [if_neg hb]
      have g2hd : ∀ a : CA, a.root ≠ .new d → g2.hd a = g1.hd a := fun a ha => by subst hg2; simp only [homeGh]; rw [if_neg ha]
      have g2res : ∀ a : CA, a.root = .new d → g2.hd a = gh.hd { a with root := .ret } := fun a ha => by subst hg2; simp only [homeGh]; rw [if_pos ha]
      have g2lim : g2.lim = g1.lim := by subst hg2; rfl
      have g2bl : g2.bl = g1.bl := by subst hg2; rfl
      have hnd : ∀ r, σ1.ex r → r ≠ .new d := fun r hr e => by
        rw [e] at hr
        have hr : σ1.isnew d = true := hr
        rw [sm.isnew, hn] at hr
        cases hr
      have hnret : ∀ r, σ1.ex r → r ≠ .ret := fun r hr e => by rw [e] at hr; exact hr
      have fzk : ∀ b, b < w.heap.size → g1.ow b = .frozen → g2.ow b = .frozen ∧ w'.heap[b]? = w.heap[b]? := fun b hb h => by
        have q : (gl.ow b).isOwn = false := by rw [glfz b h]; rfl
        exact ⟨(how b hb q).trans h, (hmem b hb q).2⟩
      have otk : ∀ b, b < w.heap.size → g1.ow b = .other → g2.ow b = .other ∧ w'.heap[b]? = w.heap[b]? := fun b hb h => by
        have q : (gl.ow b).isOwn = false := by rw [glnew b (.inr h), h]; rfl
        exact ⟨(how b hb q).trans h, (hmem b hb q).2⟩
      have bxk : ∀ b k, b < w.heap.size → g1.ow b = .box k → g2.ow b = .box k ∧ w'.heap[b]? = w.heap[b]? := fun b k hb h => by
        have q : (gl.ow b).isOwn = false := by rw [glbox b k h]; rfl
        exact ⟨(how b hb q).trans h, (hmem b hb q).2⟩
      have owk : ∀ b a, b < w.heap.size → g1.ow b = .own a → a.root ≠ .ret → g2.ow b = .own a ∧ w'.heap[b]? = w.heap[b]? := fun b a hb h ha => by
        have q : (gl.ow b).isOwn = false := by rw [glown b a h ha]; rfl
        exact ⟨(how b hb q).trans h, (hmem b hb q).2⟩
      have hst : ∀ r c, σ1.ex r → Still w w' g1 g2 r c := fun r c hr => ⟨fun b p hb h => owk b _ hb h (hnret r hr), fun p => g2hd _ (hnd r hr)⟩
      have c2 : Core E σ1 a.tmps w' g2 := Core.step c1 ⟨by rw [g2lim]; exact Nat.le_refl _, fzk, fun r c hr hd => ⟨hd, fun p => g2hd _ (hnd r hr)⟩, fun k _ => by rw [g2bl]⟩
        (fun n => .inl ⟨rfl, rfl, rfl, fun c => hst _ c (σ1.rt_ex n)⟩) (fun k kd h => .inl ⟨h, fun c => ⟨rfl, hst _ c (.inr (.inl (by rw [h]; simp)))⟩, fun hb h => bxk _ k hb h⟩) (fun k c => .inl rfl)
        (fun k es h => .inl ⟨h, fun hb h => bxk _ k hb h⟩) (fun _ h => h) (fun b hb => by
          have q := (c1.glob b hb).1
          obtain ⟨q1, q2⟩ := otk b (Nat.lt_of_lt_of_le hb c1.size) q
          exact ⟨q1.trans q.symm, q2⟩) hmv.size
      have m2 : Move w g1 w' g2 := ⟨hmv.size, g2lim, fun b hb h => by
          rcases h with h | h
          · obtain ⟨q1, q2⟩ := fzk b hb h; exact ⟨q1.trans h.symm, q2⟩
          · obtain ⟨q1, q2⟩ := otk b hb h; exact ⟨q1.trans h.symm, q2⟩, fun k _ => by rw [g2bl], fun b k hb _ h => by
          obtain ⟨q1, q2⟩ := bxk b k hb h
          exact ⟨q1, fun cs el fr hh => ⟨cs, q2.trans hh, rfl, fun _ _ => rfl⟩⟩, hmv.env, fun k c p _ _ => g2hd _ (by simp)⟩
      have fzb : ∀ b, gh.ow b = .frozen → g2.ow b = .frozen := by
        intro b hb
        by_cases hcond : b < w.heap.size ∧ (gl.ow b).isOwn = false
        · rw [how b hcond.1 hcond.2]
          have := (hmem b hcond.1 hcond.2).1
          rw [hb] at this
          exact glback b this.symm
        · rw [hnew b hcond, hb]
      have ownb : ∀ b a', gh.ow b = .own a' → ¬ (b < w.heap.size ∧ (gl.ow b).isOwn = false) := by
        rintro b a' hb ⟨q1, q2⟩
        have := (hmem b q1 q2).1
        rw [hb] at this
        rw [← this] at q2
        cases q2
      have hlim2 : gh.lim ≤ g2.lim := by rw [hmv.lim, gllim, g2lim, m1.lim]; exact Nat.le_refl _
      have hsv : SVRep w' g2 σ.dirty (.new d) 0 an.res v := by
        refine hres.mapData hdata fun c t u _ hr => ?_
        refine hr.map (fun a' => { a' with root := .new d }) hlim2 (fun _ _ _ => rfl) (fun b _ hb => ⟨fzb b hb, rfl⟩) (fun b a' _ ha hb => ⟨?_, rfl⟩) (fun a' ha => ?_)
        · rw [hnew b (ownb b a' hb), hb]
          simp only [ha.1]
        · rw [g2res _ rfl]
          congr 1
          cases a'
          have := ha.1
          simp only at this
          simp [this]
      have hhome : ∀ (k : Nat) x, L[k]? = some x → Rep w' g2 ⟨.ret, k, []⟩ x.z (g.hd x.a) := by
        intro k x hx
        have hlt := lt_of_getElem? hx
        have hk : (entrySt [] an.out).sg.kind k = some .virt := by
          show (entrySt [] an.out).kind k = some .virt
          rw [hout, virt_kind, hx]; rfl
        obtain ⟨u, hu⟩ := hco.objs k _ hk
        have e : (entrySt [] an.out).sg.cell k 0 = .t x.z := by
          show (entrySt [] an.out).cell k 0 = _
          rw [hout, virt_cell, hx]
          simp
        rw [e] at hu
        have hvh : ∀ p, gh.hd ⟨.obj k, 0, p⟩ = g1.hd ⟨.ret, k, p⟩ := fun p => by
          rw [hmv.vhd k 0 p (by omega) (by subst hgl; rfl), glhd k x hx]
        cases hu with
        | t hu =>
          have hv : u = g.hd x.a := by
            have hz := (hL x (List.mem_of_getElem? hx)).z
            have : u = gh.hd ⟨.obj k, 0, []⟩ := by
              unfold T.isOwn at hz
              split at hz
              · rename_i ez; rw [ez] at hu; exact hu.own_hd
              · cases hz
            rw [this, hvh, hh k x hx, hk1hd x (List.mem_of_getElem? hx), List.nil_append]
          rw [← hv]
          refine Rep.map (w' := w') (g' := g2) (fun a' => ⟨.ret, k, a'.path⟩) hu hlim2 (fun _ _ _ => rfl) (fun b _ hb => ⟨fzb b hb, rfl⟩) (fun b a' _ ha hb => ⟨?_, rfl⟩) (fun a' ha => ?_)
          · rw [hnew b (ownb b a' hb), hb]
            simp only [ha.1]
            rw [if_pos ⟨hlt, ha.2.1⟩]
          · rw [g2hd _ (by simp), ← hvh]
            congr 1
            obtain ⟨q1, q2, _⟩ := ha
            cases a'
            simp_all
      have hpl : ∀ x ∈ L, PlaceIs σ1 x.a.root x.a.c (x.t.put x.a.path (.val (g.hd x.a))) := by
        intro x hx
        rw [← hσ1]
        exact lnU_place hL hap x hx
      obtain ⟨g3, c3, m3, r3⟩ := putAll (H := g.hd) (d := d) L σ1 g2 0 ((congrFun sm.isnew d).trans hn) (fun x hx => ⟨hpl x hx, (hL x hx).hat⟩) hap c2 (fun i x hx => by
        rw [Nat.zero_add]
        refine ⟨hhome i x hx, fun p => ?_⟩
        have hxe := (hpl x (List.mem_of_getElem? hx)).ex
        rw [g2hd _ (by simp), g2hd ⟨x.a.root, x.a.c, p ++ x.a.path⟩ (hnd _ hxe)]
        exact hh i x hx p)
      have hst2 : σ1.upds (lnU (·.z) L) = σ.upds (lnU (·.z) L) := by rw [← hσ1]; exact lnU_twice hL hap
      rw [hst2] at c3
      have smz := lnU_same (·.z) L σ
      rw [e5] at hK
      simp only [upds_append] at hK
      refine hK _ w' g3 ?_ ((m1.trans m2).trans m3) (by simpa [Act.put, hd] using hs) (by simp [Act.put, hd])
      simp only [Act.put, hd]
      refine c3.put ((congrFun smz.isnew d).trans hn) ?_ (by rw [SV.data_roots hdata]; simp) (SV.data_flat hdata) (.inl (by rw [hs]; exact dst_lt hN hd))
      exact hsv.mapData hdata fun c t u _ hr => r3 _ _ _ rfl hr
  · rw [if_neg hb] at h; exact h.elim
end
end Vx

namespace Vx
open Go Classical
set_option linter.unusedSimpArgs false
set_option linter.unusedVariables false

/-! ## Calls that are lent boxes and maps, and that are given slices -/
theorem idxK_get {k : Nat} : ∀ {l : List Nat} {n j : Nat}, idxK k n l = some j → n ≤ j ∧ l[j - n]? = some k
  | [], n, j, h => by cases h
  | i :: l, n, j, h => by
    simp only [idxK] at h
    split at h
    · rename_i e
      cases h
      subst e
      exact ⟨Nat.le_refl _, by simp⟩
    · obtain ⟨h1, h2⟩ := idxK_get h
      refine ⟨by omega, ?_⟩
      rw [show j - n = (j - (n + 1)) + 1 by omega]
      simpa using h2
theorem idxK_mem {k : Nat} : ∀ {l : List Nat} {n : Nat}, k ∈ l → ∃ j, idxK k n l = some j
  | [], n, h => by cases h
  | i :: l, n, h => by
    simp only [idxK]
    by_cases e : k = i
    · exact ⟨n, by rw [if_pos e]⟩
    · rw [if_neg e]
      exact idxK_mem (by simpa [e] using h)
theorem idxK_at {k j : Nat} {l : List Nat} (h : idxK k 0 l = some j) : l[j]? = some k := (idxK_get h).2
theorem nodup_iff : ∀ (l : List Nat), nodup l = true ↔ l.Nodup
  | [] => by simp [nodup]
  | x :: l => by simp [nodup, nodup_iff l, List.nodup_cons]
theorem idxK_of {k j : Nat} {l : List Nat} (hn : l.Nodup) (h : l[j]? = some k) : idxK k 0 l = some j := by
  obtain ⟨i, hi⟩ := idxK_mem (n := 0) (List.mem_of_getElem? h)
  have h1 := idxK_at hi
  have hj := lt_of_getElem? h
  have hi2 := lt_of_getElem? h1
  have : i = j := (List.getElem_inj (h₀ := hi2) (h₁ := hj) hn).1 (by
    rw [List.getElem?_eq_getElem hi2] at h1
    rw [List.getElem?_eq_getElem hj] at h
    exact (Option.some.inj h1).trans (Option.some.inj h).symm)
  rw [hi, this]

inductive MapC (am : List Nat) : C → C → Prop where
  | t {y} : MapC am (.t y) (.t y)
  | ptr {k j c} (h : idxK k 0 am = some j) : MapC am (.ptr ⟨.obj k, c, []⟩) (.ptr ⟨.obj j, c, []⟩)
  | mp {k j} (h : idxK k 0 am = some j) : MapC am (.mp k) (.mp j)
  | clo {g l m} (hl : m.length = l.length) (h : ∀ (i : Nat) x z, l[i]? = some x → m[i]? = some z → MapC am x z) : MapC am (.clo g l) (.clo g m)
  | fp {row c} : MapC am (.fp row c) (.fp row c)
mutual
theorem mapC_ok {am : List Nat} : ∀ (x : C) {z : C}, mapC am x = some z → MapC am x z
  | .t y, z, h => by simp only [mapC, Option.some.injEq] at h; subst h; exact .t
  | .ptr ⟨.obj k, c, []⟩, z, h => by
    simp only [mapC] at h
    split at h
    · rename_i j hj
      simp only [Option.some.injEq] at h; subst h; exact .ptr hj
    · cases h
  | .ptr ⟨.obj k, c, _ :: _⟩, z, h => by simp [mapC] at h
  | .ptr ⟨.slot n, c, p⟩, z, h => by simp [mapC] at h
  | .ptr ⟨.new n, c, p⟩, z, h => by simp [mapC] at h
  | .ptr ⟨.ret, c, p⟩, z, h => by simp [mapC] at h
  | .ref a, z, h => by simp [mapC] at h
  | .mp k, z, h => by
    simp only [mapC] at h
    split at h
    · rename_i j hj
      simp only [Option.some.injEq] at h; subst h; exact .mp hj
    · cases h
  | .clo g caps, z, h => by
    simp only [mapC] at h
    split at h
    · rename_i m hm
      simp only [Option.some.injEq] at h; subst h
      obtain ⟨h1, h2⟩ := mapCs_ok caps hm
      exact .clo h1 h2
    · cases h
  | .fp row c, z, h => by simp only [mapC, Option.some.injEq] at h; subst h; exact .fp
theorem mapCs_ok {am : List Nat} : ∀ (l : List C) {m : List C}, mapCs am l = some m → m.length = l.length ∧ ∀ (i : Nat) x z, l[i]? = some x → m[i]? = some z → MapC am x z
  | [], m, h => by simp only [mapCs, Option.some.injEq] at h; subst h; exact ⟨rfl, by simp⟩
  | x :: l, m, h => by
    simp only [mapCs] at h
    split at h
    · rename_i y m' h1 h2
      simp only [Option.some.injEq] at h; subst h
      obtain ⟨i1, i2⟩ := mapCs_ok l h2
      refine ⟨by simp [i1], fun i a b ha hb => ?_⟩
      cases i with
      | zero =>
        simp only [List.getElem?_cons_zero, Option.some.injEq] at ha hb
        subst ha hb
        exact mapC_ok x h1
      | succ i => exact i2 i a b (by simpa using ha) (by simpa using hb)
    · cases h
end
theorem MapC.own {am : List Nat} {x z : C} (h : MapC am x z) : z.isOwn = x.isOwn := by cases h <;> rfl
theorem MapC.roots {am : List Nat} {x z : C} (h : MapC am x z) : ∀ r ∈ z.roots, ∃ j, r = .obj j ∧ j < am.length := by
  induction h with
  | t => simp [C.roots]
  | ptr h => intro r hr; simp only [C.roots, List.mem_singleton] at hr; exact ⟨_, hr, lt_of_getElem? (idxK_at h)⟩
  | mp h => intro r hr; simp only [C.roots, List.mem_singleton] at hr; exact ⟨_, hr, lt_of_getElem? (idxK_at h)⟩
  | @clo g l m hl h ih =>
    intro r hr
    simp only [C.roots] at hr
    obtain ⟨z, hz, hr⟩ := C.mem_rootsL.1 hr
    obtain ⟨i, hi⟩ := List.getElem?_of_mem hz
    have hlt := lt_of_getElem? hi
    have hlt' : i < l.length := by omega
    exact ih i l[i] z (List.getElem?_eq_getElem hlt') hi r hr
  | fp => simp [C.roots]
theorem MapC.rep {am : List Nat} {x z : C} {w : World} {g gl : Gh} {d d' : Dirt} {a a' : CA} {v : Value} (h : MapC am x z) (hx : x.isOwn = false) (hl : g.lim ≤ gl.lim) (hfz : ∀ b, b < w.heap.size → g.ow b = .frozen → gl.ow b = .frozen) (hbl : ∀ j k, am[j]? = some k → gl.bl j = g.bl k)
    (hr : CRep w g d a x v) : CRep w gl d' a' z v := by
  induction h generalizing v a a' with
  | t => cases hr with | t hr => exact .t (.fro ((hr.isFro fun sz xs e => by subst e; simp [C.isOwn] at hx).frame hl fun b q h => ⟨hfz b q h, rfl⟩))
  | ptr h =>
    cases hr with
    | ptr h1 h0 h2 =>
      refine .ptr (fun e => absurd rfl e) (fun _ => ?_) h2
      obtain ⟨k', e1, e2⟩ := PRep.path_nil.1 (h0 rfl)
      cases e1
      exact PRep.path_nil.2 ⟨_, rfl, by rw [hbl _ _ (idxK_at h)]; exact e2⟩
  | mp h => cases hr with | mp hr => exact .mp (by rw [hbl _ _ (idxK_at h)]; exact hr)
  | @clo gg l m hlen h ih =>
    cases hr with
    | clo vs hn hcap =>
      rw [← hlen]
      refine .clo vs (fun z hz => ?_) fun i z hi => ?_
      · obtain ⟨i, hi⟩ := List.getElem?_of_mem hz
        have hlt := lt_of_getElem? hi
        have hlt' : i < l.length := by omega
        rw [(h i l[i] z (List.getElem?_eq_getElem hlt') hi).own]
        exact hn _ (List.getElem_mem hlt')
      · have hlt := lt_of_getElem? hi
        have hlt' : i < l.length := by omega
        exact ih i l[i] z (List.getElem?_eq_getElem hlt') hi (hn _ (List.getElem_mem hlt')) (hcap i _ (List.getElem?_eq_getElem hlt'))
  | fp =>
    cases hr with
    | fp vs hh ho hcell hrec => exact .fp vs hh (hfz _ (lt_of_heap hh) ho) hcell fun j x hj => (hrec j x hj).frame hl fun b q h => ⟨hfz b q h, rfl⟩

/-! ### The operands -/
inductive PG (σ : Sg) (am : List Nat) (bad : List (Root × Nat)) : C → C → Bool → Prop where
  | map {x z} (h : MapC am x z) : PG σ am bad x z true
  | view {a t y} (hb : (a.root, a.c) ∉ bad) (hl : lentR am a.root = false) (hp : PlaceIs σ a.root a.c t) (ht : t.at a.path = some y) (ho : y.isOwn = true) : PG σ am bad (.ref a) (.t y.view) false
inductive PGL (σ : Sg) (am : List Nat) (bad : List (Root × Nat)) : List C → List C → Bool → Prop where
  | nil : PGL σ am bad [] [] true
  | cons {x z l m c1 c2} (h : PG σ am bad x z c1) (t : PGL σ am bad l m c2) : PGL σ am bad (x :: l) (z :: m) (c1 && c2)
/-- What is given. -/
structure Gv where
  j : Nat
  a : CA
  t : T
  y : T
def Gv.upd (x : Gv) : Upd := .set x.a.root x.a.c (x.t.put x.a.path .top)
structure GvOK (σ : Sg) (am : List Nat) (x : Gv) : Prop where
  pl : PlaceIs σ x.a.root x.a.c x.t
  hat : x.t.at x.a.path = some x.y
  y : x.y.isOwn = true
  lent : lentR am x.a.root = false
abbrev Ev (E : Env) (σ : Sg) (x : Operand) (sv : SV) : Prop := ∀ (a : Act) w g, Core E σ a.tmps w g → LIM ≤ g.lim → okOpd x = true → SVRep w g σ.dirty .ret 0 sv (a.eval x)
inductive PGA (E : Env) (σ : Sg) (am : List Nat) (mv : List (Nat × CA)) : Nat → List Operand → List SV → Bool → List Gv → Prop where
  | nil {i} : PGA E σ am mv i [] [] true []
  | mv {i x l fa cl L} {v : Gv} (hx : Ev E σ x (.c (.ref v.a))) (hj : v.j = i) (hm : lk i mv = some v.a) (hv : GvOK σ am v) (h : PGA E σ am mv (i + 1) l fa cl L) : PGA E σ am mv i (x :: l) (.c (.t v.y) :: fa) cl (v :: L)
  | c {i x y z l fa c1 c2 L} (hx : Ev E σ x (.c y)) (hy : y.isOwn = false) (h1 : PG σ am (badOf mv) y z c1) (h : PGA E σ am mv (i + 1) l fa c2 L) : PGA E σ am mv i (x :: l) (.c z :: fa) (c1 && c2) L
  | agg {i x row zs l fa c1 c2 L} (hx : Ev E σ x (.agg row)) (hy : ∀ y ∈ row, y.isOwn = false) (h1 : PGL σ am (badOf mv) row zs c1) (h : PGA E σ am mv (i + 1) l fa c2 L) : PGA E σ am mv i (x :: l) (.agg zs :: fa) (c1 && c2) L
section
variable {E : Env} {σ : Sg} {am : List Nat} {bad : List (Root × Nat)} {mv : List (Nat × CA)}
theorem passG_ok {x : C} {f : C → Bool → Rd Eff} (h : ((passG am bad x f).run σ).ok) : ∃ z cl, (passG am bad x f).run σ = (f z cl).run σ ∧ PG σ am bad x z cl := by
  unfold passG at h ⊢
  split at h
  · rename_i a
    by_cases hb : (bad.contains (a.root, a.c) || lentR am a.root) = true
    · rw [if_pos hb] at h; exact h.elim
    · rw [if_neg hb] at h ⊢
      obtain ⟨t, y, e, hat, hp⟩ := deref_is h
      rw [e] at h ⊢
      by_cases ho : y.isOwn = true
      · rw [if_pos ho] at h ⊢
        simp only [Bool.or_eq_true, not_or, Bool.not_eq_true] at hb
        exact ⟨_, _, rfl, .view (by simpa using hb.1) (by simpa using hb.2) hp hat ho⟩
      · rw [if_neg ho] at h; exact h.elim
  · split at h
    · rename_i z hz
      exact ⟨_, _, rfl, .map (mapC_ok _ hz)⟩
    · exact h.elim
theorem passGL_ok : ∀ {l : List C} {f : List C → Bool → Rd Eff}, ((passGL am bad l f).run σ).ok → ∃ zs cl, (passGL am bad l f).run σ = (f zs cl).run σ ∧ PGL σ am bad l zs cl
  | [], f, h => ⟨[], true, rfl, .nil⟩
  | x :: l, f, h => by
    simp only [passGL] at h ⊢
    obtain ⟨z, c1, e1, h1⟩ := passG_ok h
    rw [e1] at h ⊢
    obtain ⟨zs, c2, e2, h2⟩ := passGL_ok h
    exact ⟨_, _, e2, .cons h1 h2⟩
theorem passGA_ok : ∀ {l : List Operand} {i : Nat} {f : List SV → Bool → List Upd → Rd Eff}, ((passGA am mv i l f).run σ).ok → ∃ fa cl L, (passGA am mv i l f).run σ = (f fa cl (L.map Gv.upd)).run σ ∧ PGA E σ am mv i l fa cl L
  | [], i, f, h => ⟨[], true, [], rfl, .nil⟩
  | x :: l, i, f, h => by
    simp only [passGA] at h ⊢
    obtain ⟨sv, e, hr, e2, e3, _⟩ := rdS_ok2 h
    rw [e] at h ⊢
    have hx : Ev E σ x sv := fun a w g hc hl ho => e2 E a w g hc hl ho .ret
    cases hm : lk i mv with
    | some a =>
      rw [hm] at h
      simp only [hm] at h ⊢
      rcases sv with (⟨_ | b | _ | _ | _ | _⟩ | _ | _)
      case c.ref =>
        simp only at h ⊢
        by_cases hc : b = a ∧ lentR am a.root = false
        · rw [if_pos hc] at h ⊢
          obtain ⟨rfl, hlent⟩ := hc
          obtain ⟨t, e4, hp⟩ := place_is h
          rw [e4] at h ⊢
          cases ht : t.at b.path with
          | none => rw [ht] at h; exact h.elim
          | some y =>
            rw [ht] at h
            simp only at h ⊢
            by_cases ho : y.isOwn = true
            · rw [if_pos ho] at h ⊢
              obtain ⟨fa, cl, L, e5, h5⟩ := passGA_ok h
              exact ⟨_, _, ⟨i, b, t, y⟩ :: L, e5, .mv (v := ⟨i, b, t, y⟩) hx rfl hm ⟨hp, ht, ho, hlent⟩ h5⟩
            · rw [if_neg ho] at h; exact h.elim
        · rw [if_neg hc] at h; exact h.elim
      all_goals exact h.elim
    | none =>
      rw [hm] at h
      simp only [hm] at h ⊢
      cases sv with
      | c y =>
        simp only at h ⊢
        obtain ⟨z, c1, e4, h4⟩ := passG_ok h
        rw [e4] at h ⊢
        obtain ⟨fa, c2, L, e5, h5⟩ := passGA_ok h
        exact ⟨_, _, L, e5, .c hx (e3 _ rfl y (by simp)) h4 h5⟩
      | agg row =>
        simp only at h ⊢
        obtain ⟨zs, c1, e4, h4⟩ := passGL_ok h
        rw [e4] at h ⊢
        obtain ⟨fa, c2, L, e5, h5⟩ := passGA_ok h
        exact ⟨_, _, L, e5, .agg hx (e3 _ rfl) h4 h5⟩
      | tup l => exact h.elim
theorem PGA.spec {i : Nat} {l : List Operand} {fa : List SV} {cl : Bool} {L : List Gv} (h : PGA E σ am mv i l fa cl L) : fa.length = l.length ∧ (∀ v ∈ L, GvOK σ am v ∧ i ≤ v.j ∧ (v.a.root, v.a.c) ∈ badOf mv) ∧ L.Pairwise (fun x y => x.j ≠ y.j) ∧ ∀ z ∈ fa, z.flat = true ∧ ∀ r ∈ z.roots, ∃ j, r = .obj j ∧ j < am.length := by
  have pgr : ∀ {x z : C} {c}, PG σ am (badOf mv) x z c → ∀ r ∈ z.roots, ∃ j, r = .obj j ∧ j < am.length := by
    intro x z c h
    cases h with
    | map h => exact h.roots
    | view => simp [C.roots]
  induction h with
  | nil => exact ⟨rfl, by simp, .nil, by simp⟩
  | @mv i x l fa cl L v hx hj hm hv h ih =>
    obtain ⟨i1, i2, i3, i4⟩ := ih
    refine ⟨by simp [i1], fun u hu => ?_, List.pairwise_cons.2 ⟨fun u hu => ?_, i3⟩, fun z hz => ?_⟩
    · rcases List.mem_cons.1 hu with e | e
      · subst e
        refine ⟨hv, by omega, ?_⟩
        have : ∀ {m : List (Nat × CA)} {a}, lk i m = some a → (a.root, a.c) ∈ badOf m := by
          intro m
          induction m with
          | nil => intro a h; cases h
          | cons p m ihm =>
            intro a h
            obtain ⟨n, b⟩ := p
            simp only [lk] at h
            split at h
            · cases h; simp [badOf]
            · have := ihm h; simp only [badOf, List.map_cons, List.mem_cons] at this ⊢; exact .inr this
        exact this hm
      · obtain ⟨q1, q2, q3⟩ := i2 u e; exact ⟨q1, by omega, q3⟩
    · have := (i2 u hu).2.1; omega
    · rcases List.mem_cons.1 hz with e | e
      · subst e; exact ⟨rfl, by simp [SV.roots, C.roots]⟩
      · exact i4 z e
  | c hx hy h1 h ih =>
    obtain ⟨i1, i2, i3, i4⟩ := ih
    refine ⟨by simp [i1], fun u hu => ?_, i3, fun z hz => ?_⟩
    · obtain ⟨q1, q2, q3⟩ := i2 u hu; exact ⟨q1, by omega, q3⟩
    · rcases List.mem_cons.1 hz with e | e
      · subst e; exact ⟨rfl, pgr h1⟩
      · exact i4 z e
  | agg hx hy h1 h ih =>
    obtain ⟨i1, i2, i3, i4⟩ := ih
    refine ⟨by simp [i1], fun u hu => ?_, i3, fun z hz => ?_⟩
    · obtain ⟨q1, q2, q3⟩ := i2 u hu; exact ⟨q1, by omega, q3⟩
    · rcases List.mem_cons.1 hz with e | e
      · subst e
        refine ⟨rfl, ?_⟩
        simp only [SV.roots]
        intro r hr
        obtain ⟨y, hy', hr⟩ := C.mem_rootsL.1 hr
        have : ∀ {l m : List C} {c}, PGL σ am (badOf mv) l m c → ∀ z ∈ m, ∀ r ∈ z.roots, ∃ j, r = .obj j ∧ j < am.length := by
          intro l m c h
          induction h with
          | nil => simp
          | cons h t ih =>
            intro z hz r hr
            rcases List.mem_cons.1 hz with e | e
            · subst e; exact pgr h r hr
            · exact ih z e r hr
        exact this h1 y hy' r hr
      · exact i4 z e

/-! ### What is given moves away -/
theorem gvAll {tmps : Array Value} {w : World} : ∀ (L : List Gv) (σ : Sg) (g : Gh), (∀ x ∈ L, GvOK σ am x) → L.Pairwise (fun x y => ¬ (y.a.root = x.a.root ∧ y.a.c = x.a.c) ∧ x.j ≠ y.j) → Core E σ tmps w g →
    ∃ g1, Core E (σ.upds (L.map Gv.upd)) tmps w g1 ∧ Move w g w g1 ∧ Keeps w w g g1 σ.dirty σ.dirty σ.ex ∧ (∀ x ∈ L, Rep w g1 ⟨.ret, x.j, []⟩ x.y (g.hd x.a)) ∧ (∀ j t v, (∀ x ∈ L, x.j ≠ j) → Rep w g ⟨.ret, j, []⟩ t v → Rep w g1 ⟨.ret, j, []⟩ t v) ∧
      Same σ (σ.upds (L.map Gv.upd)) ∧ ∀ r c t, PlaceIs σ r c t → (∀ x ∈ L, ¬ (r = x.a.root ∧ c = x.a.c)) → PlaceIs (σ.upds (L.map Gv.upd)) r c t
  | [], σ, g, _, _, hc => ⟨g, hc, Move.refl _ _, Keeps.refl _ _ _ _, by simp, fun _ _ _ _ h => h, Same.refl _, fun _ _ _ h _ => h⟩
  | x :: L, σ, g, hL, hp, hc => by
    have hx := hL x (by simp)
    have hp' := List.pairwise_cons.1 hp
    obtain ⟨c1, v, rv, rv'⟩ := hc.take1 hx.pl hx.hat ⟨.ret, x.j, []⟩ (fun h => h)
    have hnr : ∀ r, σ.ex r → r ≠ .ret := fun r h e => by rw [e] at h; exact h
    have hv : v = g.hd x.a := by
      have := hx.y
      unfold T.isOwn at this
      split at this
      · rename_i e; rw [e] at rv; rw [rv.own_hd]
      · cases this
    have hd1 : ∀ a : CA, σ.ex a.root → (g.reg ⟨x.a.root, x.a.c, x.a.path⟩ ⟨.ret, x.j, []⟩).hd a = g.hd a := fun a h => Gh.reg_hd _ _ _ fun e => hnr _ h e.1
    have k1 : Keeps w w g (g.reg ⟨x.a.root, x.a.c, x.a.path⟩ ⟨.ret, x.j, []⟩) σ.dirty σ.dirty σ.ex := ⟨Nat.le_refl _, fun b _ h => ⟨Gh.reg_fz _ _ _ h, rfl⟩, fun r' c' h1 h2 => ⟨h2, fun s => hd1 _ h1⟩, fun _ _ => rfl⟩
    have sm : Same σ (σ.upd x.upd) := ⟨Sg.setP_isnew _ _ _ _, Sg.setP_ex _ _ _ _, Sg.setP_dirty _ _ _ _, Sg.setP_kind _ _ _ _, Sg.setP_mp _ _ _ _⟩
    obtain ⟨g1, c2, m2, k2, rp, oth, s2, pls⟩ := gvAll L (σ.upd x.upd) _ (fun y hy => by
      have q := hL y (by simp [hy])
      exact ⟨hx.pl.hole q.pl (hp'.1 y hy).1, q.hat, q.y, q.lent⟩) hp'.2 c1
    rw [sm.dirty, sm.ex] at k2
    refine ⟨g1, c2, (Gh.reg_move w g _ _ (fun k e => by cases e)).trans m2, Keeps.trans (Nat.le_refl _) k1 k2, fun y hy => ?_, fun j t u hj hr => ?_, sm.trans s2, fun r c t hpl hn => ?_⟩
    · rcases List.mem_cons.1 hy with e | e
      · subst e
        rw [← hv]
        exact oth _ _ _ (fun z hz => fun e => (hp'.1 z hz).2 e.symm) rv'
      · have := rp y e
        rw [hd1 _ (hL y hy).pl.ex] at this
        exact this
    · refine oth j t u (fun z hz => hj z (by simp [hz])) (hr.reg_other (CA.apart_root fun e => ?_) (cell_apart _ (fun e => hj x (by simp) e.symm) _ _))
      have e : Root.ret = x.a.root := e
      exact hnr _ hx.pl.ex e.symm
    · exact pls r c t (hx.pl.hole hpl (hn x (by simp))) fun y hy => hn y (by simp [hy])
end
end Vx

namespace Vx
open Go Classical
set_option linter.unusedSimpArgs false
set_option linter.unusedVariables false

inductive LentG (σ : Sg) (am : List Nat) : List Nat → List AR → Prop where
  | nil : LentG σ am [] []
  | box {k ks rs n zs} (hk : σ.kind k = some (.box n)) (hm : σ.mp k = none) (hz : zs.length = n) (h : ∀ (c : Nat) z, zs[c]? = some z → MapC am (σ.cell k c) z) (t : LentG σ am ks rs) : LentG σ am (k :: ks) (.box zs :: rs)
  | map {k ks rs es} (hk : σ.kind k = none) (hm : σ.mp k = some es) (t : LentG σ am ks rs) : LentG σ am (k :: ks) (.map es :: rs)
theorem readRow_run (σ : Sg) (k : Nat) : ∀ (n c : Nat) (f : List C → Rd Eff), (readRow k c n f).run σ = (f ((List.range n).map fun i => σ.cell k (c + i))).run σ
  | 0, c, f => rfl
  | n + 1, c, f => by
    simp only [readRow, Rd.run]
    rw [readRow_run σ k n (c + 1), List.range_succ_eq_map]
    simp only [List.map_cons, List.map_map, Nat.add_zero]
    congr 3
    apply List.map_congr_left
    intro i _
    simp only [Function.comp, show c + 1 + i = c + (i + 1) by omega]
theorem lendG_ok {σ : Sg} {am : List Nat} : ∀ {ks : List Nat} {f : List AR → Rd Eff}, ((lendG am ks f).run σ).ok → ∃ rs, (lendG am ks f).run σ = (f rs).run σ ∧ LentG σ am ks rs
  | [], f, h => ⟨[], rfl, .nil⟩
  | k :: ks, f, h => by
    simp only [lendG, Rd.run] at h ⊢
    cases hk : σ.kind k with
    | none =>
      cases hm : σ.mp k with
      | none => rw [hk, hm] at h; exact h.elim
      | some es =>
        rw [hk, hm] at h
        simp only at h ⊢
        obtain ⟨rs, e, h1⟩ := lendG_ok h
        exact ⟨_, e, .map hk hm h1⟩
    | some kd =>
      cases kd with
      | virt => rw [hk] at h; exact h.elim
      | box n =>
        cases hm : σ.mp k with
        | some es => rw [hk, hm] at h; exact h.elim
        | none =>
          rw [hk, hm] at h
          simp only [readRow_run] at h ⊢
          split at h
          · rename_i zs hz
            try simp only [hz]
            obtain ⟨rs, e, h1⟩ := lendG_ok h
            obtain ⟨z1, z2⟩ := mapCs_ok _ hz
            refine ⟨_, e, .box hk hm (by rw [z1]; simp) (fun c z hc => ?_) h1⟩
            have hlt := lt_of_getElem? hc
            have hlt' : c < n := by rw [z1] at hlt; simpa using hlt
            have := z2 c _ z (by rw [List.getElem?_map, List.getElem?_range hlt']; rfl) hc
            simpa using this
          · exact h.elim
theorem LentG.at {σ : Sg} {am : List Nat} {ks : List Nat} {rs : List AR} (h : LentG σ am ks rs) : rs.length = ks.length ∧ ∀ (j : Nat) k, ks[j]? = some k →
    (∃ n zs, rs[j]? = some (.box zs) ∧ σ.kind k = some (.box n) ∧ zs.length = n ∧ ∀ (c : Nat) z, zs[c]? = some z → MapC am (σ.cell k c) z) ∨ (∃ es, rs[j]? = some (.map es) ∧ σ.kind k = none ∧ σ.mp k = some es) := by
  induction h with
  | nil => exact ⟨rfl, by simp⟩
  | box hk hm hz h t ih =>
    refine ⟨by simp [ih.1], fun j k' hj => ?_⟩
    cases j with
    | zero => simp only [List.getElem?_cons_zero, Option.some.injEq] at hj; subst hj; exact .inl ⟨_, _, rfl, hk, hz, h⟩
    | succ j => exact ih.2 j k' (by simpa using hj)
  | map hk hm t ih =>
    refine ⟨by simp [ih.1], fun j k' hj => ?_⟩
    cases j with
    | zero => simp only [List.getElem?_cons_zero, Option.some.injEq] at hj; subst hj; exact .inr ⟨_, rfl, hk, hm⟩
    | succ j => exact ih.2 j k' (by simpa using hj)
theorem lent_nomap {σ : Sg} {am ks : List Nat} {rs : List AR} (h : LentG σ am ks rs) : ∀ (j : Nat) k, ks[j]? = some k → σ.kind k ≠ none → σ.mp k = none := by
  induction h with
  | nil => simp
  | box hk hm hz h t ih =>
    intro j k' hj hn
    cases j with
    | zero => simp only [List.getElem?_cons_zero, Option.some.injEq] at hj; subst hj; exact hm
    | succ j => exact ih j k' (by simpa using hj) hn
  | map hk hm t ih =>
    intro j k' hj hn
    cases j with
    | zero => simp only [List.getElem?_cons_zero, Option.some.injEq] at hj; subst hj; exact absurd hk hn
    | succ j => exact ih j k' (by simpa using hj) hn
theorem LentG.other {σ σ' : Sg} {am : List Nat} {ks : List Nat} {rs : List AR} (h : LentG σ am ks rs) (h1 : σ'.kind = σ.kind) (h2 : σ'.mp = σ.mp) (h3 : ∀ k ∈ ks, ∀ c, σ'.cell k c = σ.cell k c) : LentG σ' am ks rs := by
  induction h with
  | nil => exact .nil
  | box hk hm hz h t ih => exact .box (by rw [h1]; exact hk) (by rw [h2]; exact hm) hz (fun c z hc => by rw [h3 _ (by simp)]; exact h c z hc) (ih fun k hk => h3 k (by simp [hk]))
  | map hk hm t ih => exact .map (by rw [h1]; exact hk) (by rw [h2]; exact hm) (ih fun k hk => h3 k (by simp [hk]))

/-! ### What comes back -/
inductive BackG (σ : Sg) (am : List Nat) : List Nat → List AR → List Upd → Option AR → Prop where
  | nil : BackG σ am [] [] [] none
  | mbox {row} : BackG σ am [] [.mbox row] [] (some (.mbox row))
  | mmap {es} : BackG σ am [] [.mmap es] [] (some (.mmap es))
  | box {k ks out vs md zs row n} (hk : σ.kind k = some (.box n)) (hu : unCs am zs = some row) (hn : row.length = n) (t : BackG σ am ks out vs md) : BackG σ am (k :: ks) (.box zs :: out) (cellsU k 0 row ++ vs) md
  | map {k ks out vs md es e0} (hm : σ.mp k = some e0) (t : BackG σ am ks out vs md) : BackG σ am (k :: ks) (.map es :: out) (.mp k es :: vs) md
theorem backG_ok {σ : Sg} {am : List Nat} : ∀ {ks : List Nat} {out : List AR} {f : List Upd → Option AR → Rd Eff}, ((backG am ks out f).run σ).ok → ∃ vs md, (backG am ks out f).run σ = (f vs md).run σ ∧ BackG σ am ks out vs md
  | [], [], f, h => ⟨_, _, rfl, .nil⟩
  | [], [.mbox row], f, h => ⟨_, _, rfl, .mbox⟩
  | [], [.mmap es], f, h => ⟨_, _, rfl, .mmap⟩
  | k :: ks, .box zs :: out, f, h => by
    simp only [backG, Rd.run] at h ⊢
    split at h
    · rename_i n row hk hu
      try simp only [hk, hu]
      by_cases hn : row.length = n
      · rw [if_pos hn] at h ⊢
        obtain ⟨vs, md, e, h1⟩ := backG_ok h
        exact ⟨_, _, e, .box hk hu hn h1⟩
      · rw [if_neg hn] at h; exact h.elim
    · exact h.elim
  | k :: ks, .map es :: out, f, h => by
    simp only [backG, Rd.run] at h ⊢
    split at h
    · rename_i e0 hm
      try simp only [hm]
      obtain ⟨vs, md, e, h1⟩ := backG_ok h
      exact ⟨_, _, e, .map hm h1⟩
    · exact h.elim
  | [], .box _ :: _, f, h => by simp [backG, fail, Rd.run] at h
  | [], .virt _ :: _, f, h => by simp [backG, fail, Rd.run] at h
  | [], .map _ :: _, f, h => by simp [backG, fail, Rd.run] at h
  | [], .mbox _ :: _ :: _, f, h => by simp [backG, fail, Rd.run] at h
  | [], .mmap _ :: _ :: _, f, h => by simp [backG, fail, Rd.run] at h
  | _ :: _, [], f, h => by simp [backG, fail, Rd.run] at h
  | _ :: _, .virt _ :: _, f, h => by simp [backG, fail, Rd.run] at h
  | _ :: _, .mbox _ :: _, f, h => by simp [backG, fail, Rd.run] at h
  | _ :: _, .mmap _ :: _, f, h => by simp [backG, fail, Rd.run] at h
theorem BackG.at {σ : Sg} {am : List Nat} {ks : List Nat} {out : List AR} {vs : List Upd} {md : Option AR} (h : BackG σ am ks out vs md) : ∀ (j : Nat) k, ks[j]? = some k →
    (∃ n zs row, out[j]? = some (.box zs) ∧ σ.kind k = some (.box n) ∧ unCs am zs = some row ∧ row.length = n) ∨ (∃ es e0, out[j]? = some (.map es) ∧ σ.mp k = some e0) := by
  induction h with
  | nil => simp
  | mbox => simp
  | mmap => simp
  | box hk hu hn t ih =>
    intro j k' hj
    cases j with
    | zero => simp only [List.getElem?_cons_zero, Option.some.injEq] at hj; subst hj; exact .inl ⟨_, _, _, rfl, hk, hu, hn⟩
    | succ j => exact ih j k' (by simpa using hj)
  | map hm t ih =>
    intro j k' hj
    cases j with
    | zero => simp only [List.getElem?_cons_zero, Option.some.injEq] at hj; subst hj; exact .inr ⟨_, _, rfl, hm⟩
    | succ j => exact ih j k' (by simpa using hj)
theorem BackG.made {σ : Sg} {am : List Nat} {ks : List Nat} {out : List AR} {vs : List Upd} {md : Option AR} (h : BackG σ am ks out vs md) : ∀ n, n + ks.length ≤ 1000 →
    (∀ row, md = some (.mbox row) → lk MADE (obsOf n out) = some row ∧ AR.mbox row ∈ out) ∧ (∀ es, md = some (.mmap es) → lk MADE (mpsOf n out) = some es ∧ AR.mmap es ∈ out) ∧ (∀ x, md ≠ some (.virt x)) ∧ (∀ x, md ≠ some (.box x)) ∧ ∀ x, md ≠ some (.map x) := by
  induction h with
  | nil => intro n _; simp
  | mbox => intro n _; simp [obsOf, lk]
  | mmap => intro n _; simp [mpsOf, lk]
  | box hk hu hn t ih =>
    intro n hl
    simp only [List.length_cons] at hl
    obtain ⟨i1, i2, i3⟩ := ih (n + 1) (by omega)
    refine ⟨fun row e => ?_, fun es e => ?_, i3⟩
    · obtain ⟨q1, q2⟩ := i1 row e
      refine ⟨?_, by simp [q2]⟩
      simp only [obsOf, lk]
      rw [if_neg (by unfold MADE; omega)]
      exact q1
    · obtain ⟨q1, q2⟩ := i2 es e
      exact ⟨by simp only [mpsOf]; exact q1, by simp [q2]⟩
  | map hm t ih =>
    intro n hl
    simp only [List.length_cons] at hl
    obtain ⟨i1, i2, i3⟩ := ih (n + 1) (by omega)
    refine ⟨fun row e => ?_, fun es e => ?_, i3⟩
    · obtain ⟨q1, q2⟩ := i1 row e
      exact ⟨by simp only [obsOf]; exact q1, by simp [q2]⟩
    · obtain ⟨q1, q2⟩ := i2 es e
      refine ⟨?_, by simp [q2]⟩
      simp only [mpsOf, lk]
      rw [if_neg (by unfold MADE; omega)]
      exact q1

structure Cells (τ τ' : Sg) : Prop where
  slot : τ'.slot = τ.slot
  isnew : τ'.isnew = τ.isnew
  kind : τ'.kind = τ.kind
  dirt : ∀ r c, τ'.dirty r c = false → τ.dirty r c = false
theorem Cells.trans {a b c : Sg} (h : Cells a b) (k : Cells b c) : Cells a c := ⟨k.slot.trans h.slot, k.isnew.trans h.isnew, k.kind.trans h.kind, fun r i e => h.dirt r i (k.dirt r i e)⟩
theorem cellsU_eff {k n : Nat} : ∀ (row : List C) (τ : Sg) (c0 : Nat), τ.kind k = some (.box n) → c0 + row.length ≤ n → Cells τ (τ.upds (cellsU k c0 row)) ∧ (τ.upds (cellsU k c0 row)).mp = τ.mp ∧
    (∀ (i : Nat) x, row[i]? = some x → (τ.upds (cellsU k c0 row)).cell k (c0 + i) = x ∧ (τ.upds (cellsU k c0 row)).dirty (.obj k) (c0 + i) = true) ∧
    (∀ k' c, (k' ≠ k ∨ c < c0 ∨ n ≤ c) → (τ.upds (cellsU k c0 row)).cell k' c = τ.cell k' c) ∧ (∀ r c, τ.dirty r c = true → (τ.upds (cellsU k c0 row)).dirty r c = true)
  | [], τ, c0, _, _ => ⟨⟨rfl, rfl, rfl, fun _ _ h => h⟩, rfl, by simp, fun _ _ _ => rfl, fun _ _ h => h⟩
  | x :: row, τ, c0, hk, hl => by
    simp only [List.length_cons] at hl
    simp only [cellsU, upds_cons]
    generalize hτ1 : (τ.upd (.cell k c0 x)).upd (.dirtC k c0) = τ1
    have s1 : τ1.slot = τ.slot := by subst hτ1; rfl
    have s2 : τ1.isnew = τ.isnew := by subst hτ1; rfl
    have s3 : τ1.kind = τ.kind := by subst hτ1; rfl
    have s4 : τ1.mp = τ.mp := by subst hτ1; rfl
    have hin : τ.inr k c0 = true := by simp only [Sg.inr, hk, inrK, decide_eq_true_eq]; omega
    have s5 : ∀ k' c, τ1.cell k' c = if k' = k ∧ c = c0 then x else τ.cell k' c := by
      intro k' c
      subst hτ1
      show (τ.setP (.obj k) c0 x).cell k' c = _
      simp only [Sg.setP, hin, and_true]
    have s6 : ∀ r c, τ1.dirty r c = if r = .obj k ∧ c = c0 then true else τ.dirty r c := by intro r c; subst hτ1; rfl
    obtain ⟨i1, i2, i3, i4, i5⟩ := cellsU_eff row τ1 (c0 + 1) (by rw [s3]; exact hk) (by omega)
    refine ⟨⟨i1.slot.trans s1, i1.isnew.trans s2, i1.kind.trans s3, fun r c e => ?_⟩, i2.trans s4, fun i y hi => ?_, fun k' c hc => ?_, fun r c hd => ?_⟩
    · have := i1.dirt r c e
      rw [s6] at this
      split at this
      · cases this
      · exact this
    · cases i with
      | zero =>
        simp only [List.getElem?_cons_zero, Option.some.injEq] at hi
        subst hi
        simp only [Nat.add_zero]
        rw [i4 k c0 (.inr (.inl (by omega))), s5, if_pos ⟨rfl, rfl⟩]
        exact ⟨rfl, i5 _ _ (by rw [s6, if_pos ⟨rfl, rfl⟩])⟩
      | succ i =>
        have := i3 i y (by simpa using hi)
        rw [show c0 + 1 + i = c0 + (i + 1) by omega] at this
        exact this
    · rw [i4 k' c (by omega), s5, if_neg (by omega)]
    · refine i5 r c ?_
      rw [s6]
      split
      · rfl
      · exact hd
theorem BackG.eff {σ : Sg} {am : List Nat} {ks : List Nat} {out : List AR} {vs : List Upd} {md : Option AR} (h : BackG σ am ks out vs md) : ∀ (τ : Sg), τ.kind = σ.kind → ks.Nodup → Cells τ (τ.upds vs) ∧
    (∀ (j : Nat) k zs row, ks[j]? = some k → out[j]? = some (.box zs) → unCs am zs = some row → ∀ (c : Nat) x, row[c]? = some x → (τ.upds vs).cell k c = x ∧ (τ.upds vs).dirty (.obj k) c = true) ∧
    (∀ k c, (k ∉ ks ∨ ∀ n, σ.kind k = some (.box n) → n ≤ c) → (τ.upds vs).cell k c = τ.cell k c) ∧
    (∀ (j : Nat) k es, ks[j]? = some k → out[j]? = some (.map es) → (τ.upds vs).mp k = some es) ∧
    (∀ k, (∀ (j : Nat) es, ks[j]? = some k → out[j]? ≠ some (.map es)) → (τ.upds vs).mp k = τ.mp k) ∧ (∀ r c, τ.dirty r c = true → (τ.upds vs).dirty r c = true) := by
  induction h with
  | nil => intro τ _ _; exact ⟨⟨rfl, rfl, rfl, fun _ _ h => h⟩, by simp, fun _ _ _ => rfl, by simp, fun _ _ => rfl, fun _ _ h => h⟩
  | mbox => intro τ _ _; exact ⟨⟨rfl, rfl, rfl, fun _ _ h => h⟩, by simp, fun _ _ _ => rfl, by simp, fun _ _ => rfl, fun _ _ h => h⟩
  | mmap => intro τ _ _; exact ⟨⟨rfl, rfl, rfl, fun _ _ h => h⟩, by simp, fun _ _ _ => rfl, by simp, fun _ _ => rfl, fun _ _ h => h⟩
  | @box k ks out vs md zs row n hk hu hn t ih =>
    intro τ hτ hnd
    obtain ⟨hk1, hnd⟩ := List.nodup_cons.1 hnd
    obtain ⟨e1, e2, e3, e4, e5⟩ := cellsU_eff row τ 0 (by rw [hτ]; exact hk) (by omega)
    rw [upds_append]
    generalize hτ1 : τ.upds (cellsU k 0 row) = τ1 at e1 e2 e3 e4 e5
    obtain ⟨i1, i2, i3, i4, i5, i6⟩ := ih τ1 (e1.kind.trans hτ) hnd
    refine ⟨e1.trans i1, fun j k' zs' row' hj ho hu' c x hx => ?_, fun k' c hc => ?_, fun j k' es hj ho => ?_, fun k' hk' => ?_, fun r c hd => i6 r c (e5 r c hd)⟩
    · cases j with
      | zero =>
        simp only [List.getElem?_cons_zero, Option.some.injEq] at hj ho
        subst hj
        cases ho
        rw [hu] at hu'
        cases hu'
        have := e3 c x hx
        rw [Nat.zero_add] at this
        exact ⟨(i3 k c (.inl hk1)).trans this.1, i6 _ _ this.2⟩
      | succ j => exact i2 j k' zs' row' (by simpa using hj) (by simpa using ho) hu' c x hx
    · rw [i3 k' c (hc.imp (fun h => fun q => h (by simp [q])) id)]
      refine e4 k' c ?_
      by_cases e : k' = k
      · subst e
        rcases hc with hc | hc
        · exact absurd (by simp) hc
        · exact .inr (.inr (hc n hk))
      · exact .inl e
    · cases j with
      | zero =>
        simp only [List.getElem?_cons_zero, Option.some.injEq] at hj ho
        cases ho
      | succ j => exact i4 j k' es (by simpa using hj) (by simpa using ho)
    · rw [i5 k' fun j es hj ho => hk' (j + 1) es (by simpa using hj) (by simpa using ho), e2]
  | @map k ks out vs md es e0 hm t ih =>
    intro τ hτ hnd
    obtain ⟨hk1, hnd⟩ := List.nodup_cons.1 hnd
    rw [upds_cons]
    obtain ⟨i1, i2, i3, i4, i5, i6⟩ := ih (τ.upd (.mp k es)) hτ hnd
    refine ⟨⟨i1.slot, i1.isnew, i1.kind, i1.dirt⟩, fun j k' zs' row' hj ho hu' c x hx => ?_, fun k' c hc => ?_, fun j k' es' hj ho => ?_, fun k' hk' => ?_, fun r c hd => i6 r c hd⟩
    · cases j with
      | zero =>
        simp only [List.getElem?_cons_zero, Option.some.injEq] at hj ho
        cases ho
      | succ j => exact i2 j k' zs' row' (by simpa using hj) (by simpa using ho) hu' c x hx
    · exact i3 k' c (hc.imp (fun h => fun q => h (by simp [q])) id)
    · cases j with
      | zero =>
        simp only [List.getElem?_cons_zero, Option.some.injEq] at hj ho
        subst hj
        cases ho
        rw [i5 k fun j es' hj _ => hk1 (List.mem_of_getElem? hj)]
        simp [Sg.upd]
      | succ j => exact i4 j k' es' (by simpa using hj) (by simpa using ho)
    · have hne : k' ≠ k := fun e => hk' 0 es (by simp [e]) rfl
      rw [i5 k' fun j es' hj ho => hk' (j + 1) es' (by simpa using hj) (by simpa using ho)]
      simp [Sg.upd, hne]
theorem unCs_at {am : List Nat} : ∀ {zs row : List C}, unCs am zs = some row → row.length = zs.length ∧ ∀ (c : Nat) z, zs[c]? = some z → ∃ x, row[c]? = some x ∧ unC am z = some x
  | [], row, h => by simp only [unCs, Option.some.injEq] at h; subst h; exact ⟨rfl, by simp⟩
  | z :: zs, row, h => by
    simp only [unCs] at h
    split at h
    · rename_i y m h1 h2
      simp only [Option.some.injEq] at h; subst h
      obtain ⟨i1, i2⟩ := unCs_at h2
      refine ⟨by simp [i1], fun c u hc => ?_⟩
      cases c with
      | zero => simp only [List.getElem?_cons_zero, Option.some.injEq] at hc; subst hc; exact ⟨y, rfl, h1⟩
      | succ c => exact i2 c u (by simpa using hc)
    · cases h
/-- What an entry's boxes hold. -/
theorem lk_obs_at : ∀ (l : List AR) (n j : Nat) {zs : List C}, n ≤ j → j < MADE → l[j - n]? = some (.box zs) → lk j (obsOf n l) = some zs
  | [], n, j, zs, _, _, h => by simp at h
  | a :: l, n, j, zs, h1, h2, h => by
    by_cases e : j = n
    · subst e
      simp only [Nat.sub_self, List.getElem?_cons_zero, Option.some.injEq] at h
      subst h
      simp [obsOf, lk]
    · rw [show j - n = (j - (n + 1)) + 1 by omega, List.getElem?_cons_succ] at h
      have := lk_obs_at l (n + 1) j (by omega) h2 h
      cases a <;> simp only [obsOf, lk] <;> first | exact this | (rw [if_neg e]; exact this) | (rw [if_neg (by omega)]; exact this)
theorem lk_mps_at : ∀ (l : List AR) (n j : Nat) {zs : List (T × T)}, n ≤ j → j < MADE → l[j - n]? = some (.map zs) → lk j (mpsOf n l) = some zs
  | [], n, j, zs, _, _, h => by simp at h
  | a :: l, n, j, zs, h1, h2, h => by
    by_cases e : j = n
    · subst e
      simp only [Nat.sub_self, List.getElem?_cons_zero, Option.some.injEq] at h
      subst h
      simp [mpsOf, lk]
    · rw [show j - n = (j - (n + 1)) + 1 by omega, List.getElem?_cons_succ] at h
      have := lk_mps_at l (n + 1) j (by omega) h2 h
      cases a <;> simp only [mpsOf, lk] <;> first | exact this | (rw [if_neg e]; exact this) | (rw [if_neg (by omega)]; exact this)
theorem LentG.vis {σ : Sg} {am : List Nat} {ks : List Nat} {rs : List AR} (h : LentG σ am ks rs) : ∀ n, visOf n rs = [] ∧ (∀ j zs, lk j (obsOf n rs) = some zs → n ≤ j ∧ rs[j - n]? = some (.box zs)) ∧ ∀ j es, lk j (mpsOf n rs) = some es → n ≤ j ∧ rs[j - n]? = some (.map es) := by
  induction h with
  | nil => intro n; simp [visOf, obsOf, mpsOf, lk]
  | box hk hm hz h t ih =>
    intro n
    obtain ⟨i1, i2, i3⟩ := ih (n + 1)
    refine ⟨by simpa [visOf] using i1, fun j zs hj => ?_, fun j es hj => ?_⟩
    · simp only [obsOf, lk] at hj
      split at hj
      · rename_i e; subst e; cases hj; exact ⟨Nat.le_refl _, by simp⟩
      · obtain ⟨q1, q2⟩ := i2 j zs hj
        exact ⟨by omega, by rw [show j - n = (j - (n + 1)) + 1 by omega]; simpa using q2⟩
    · simp only [mpsOf] at hj
      obtain ⟨q1, q2⟩ := i3 j es hj
      exact ⟨by omega, by rw [show j - n = (j - (n + 1)) + 1 by omega]; simpa using q2⟩
  | map hk hm t ih =>
    intro n
    obtain ⟨i1, i2, i3⟩ := ih (n + 1)
    refine ⟨by simpa [visOf] using i1, fun j zs hj => ?_, fun j es hj => ?_⟩
    · simp only [obsOf] at hj
      obtain ⟨q1, q2⟩ := i2 j zs hj
      exact ⟨by omega, by rw [show j - n = (j - (n + 1)) + 1 by omega]; simpa using q2⟩
    · simp only [mpsOf, lk] at hj
      split at hj
      · rename_i e; subst e; cases hj; exact ⟨Nat.le_refl _, by simp⟩
      · obtain ⟨q1, q2⟩ := i3 j es hj
        exact ⟨by omega, by rw [show j - n = (j - (n + 1)) + 1 by omega]; simpa using q2⟩
end Vx

namespace Vx
open Go Classical
set_option linter.unusedSimpArgs false
set_option linter.unusedVariables false

/-- The callee's ghost: what is given lies in its slots, what is lent bears the numbers 0, 1, .. -/
noncomputable def lendGh (am : List Nat) (cl : Bool) (g : Gh) : Gh :=
  { lim := g.lim
    ow := fun b => match g.ow b with
      | .own a => match a.root with
        | .ret => .own ⟨.slot a.c, 0, a.path⟩
        | .obj k => match idxK k 0 am with | some j => .own ⟨.obj j, a.c, a.path⟩ | none => if cl then .other else .frozen
        | _ => if cl then .other else .frozen
      | .box k => match idxK k 0 am with | some j => .box j | none => .other
      | t => t
    hd := fun a => match a.root with
      | .slot j => g.hd ⟨.ret, j, a.path⟩
      | .obj j => match am[j]? with | some k => g.hd ⟨.obj k, a.c, a.path⟩ | none => g.hd a
      | _ => g.hd a
    bl := fun j => match am[j]? with | some k => g.bl k | none => (0, 0, 0) }
/-- The caller's ghost, after. -/
noncomputable def retGh (n0 : Nat) (am : List Nat) (sz : Nat → Nat) (r0 : Root) (kd : Nat) (md : Bool) (g1 gl gh : Gh) : Gh :=
  { lim := g1.lim
    ow := fun b => if b < n0 ∧ (gl.ow b = .frozen ∨ gl.ow b = .other) then g1.ow b else match gh.ow b with
      | .own a => match a.root with
        | .ret => .own { a with root := r0 }
        | .obj j => match am[j]? with | some k => .own ⟨.obj k, a.c, a.path⟩ | none => if j = MADE ∧ md = true then .own ⟨.obj kd, a.c, a.path⟩ else .other
        | _ => .other
      | .box j => match am[j]? with | some k => .box k | none => if j = MADE ∧ md = true then .box kd else .other
      | t => t
    hd := fun a => if a.root = r0 then gh.hd { a with root := .ret } else match a.root with
      | .obj k => if k = kd ∧ md = true then gh.hd ⟨.obj MADE, a.c, a.path⟩ else match idxK k 0 am with
        | some j => if a.c < sz k then gh.hd ⟨.obj j, a.c, a.path⟩ else g1.hd a
        | none => g1.hd a
      | _ => g1.hd a
    bl := fun k => if k = kd ∧ md = true then gh.bl MADE else g1.bl k }

theorem Core.addMap {E : Env} {σ : Sg} {tmps : Array Value} {w : World} {g : Gh} (hc : Core E σ tmps w g) {k : Nat} {es : List (T × T)} (hm : MapRep w g k es) : Core E (σ.upd (.mp k es)) tmps w g := by
  refine Core.step hc (Keeps.refl _ _ _ _) (fun n => .inl ⟨rfl, rfl, rfl, fun c => Still.refl _ _ _ _⟩) (fun j kd h => .inl ⟨h, fun c => ⟨rfl, Still.refl _ _ _ _⟩, fun _ h => ⟨h, rfl⟩⟩) (fun j c => .inl rfl) (fun j e h => ?_) (fun r hr => ?_) (fun b _ => ⟨rfl, rfl⟩) (Nat.le_refl _)
  · by_cases hj : j = k
    · subst hj
      simp only [Sg.upd, if_true, Option.some.injEq] at h
      subst h
      exact .inr hm
    · simp only [Sg.upd, if_neg hj] at h
      exact .inl ⟨h, fun _ h => ⟨h, rfl⟩⟩
  · cases r with
    | obj i =>
      rcases hr with h | h | h
      · exact .inl h
      · exact .inr (.inl h)
      · refine .inr (.inr ?_)
        simp only [Sg.upd]
        split
        · simp
        · exact h
    | _ => exact hr
theorem Core.addBox {E : Env} {σ : Sg} {tmps : Array Value} {w : World} {g : Gh} (hc : Core E σ tmps w g) {k : Nat} {row : List C} (ho : ObjRep w g (σ.upd (.box k row)) k (.box row.length)) (hd : ∀ x ∈ row, x.roots = []) : Core E (σ.upd (.box k row)) tmps w g := by
  have hex : ∀ r, σ.ex r → (σ.upd (.box k row)).ex r := by
    intro r h
    cases r with
    | obj j =>
      rcases h with h | h | h
      · exact .inl h
      · refine .inr (.inl ?_)
        simp only [Sg.upd]
        split
        · simp
        · exact h
      · exact .inr (.inr h)
    | _ => exact h
  refine Core.step hc (Keeps.refl _ _ _ _) (fun n => .inl ⟨rfl, rfl, rfl, fun c => Still.refl _ _ _ _⟩) (fun j kd h => ?_) (fun j c => ?_) (fun j e h => .inl ⟨h, fun _ h => ⟨h, rfl⟩⟩) hex (fun b _ => ⟨rfl, rfl⟩) (Nat.le_refl _)
  · by_cases hj : j = k
    · subst hj
      simp only [Sg.upd, if_true, Option.some.injEq] at h
      subst h
      exact .inr ho
    · simp only [Sg.upd, if_neg hj] at h
      exact .inl ⟨h, fun c => ⟨by simp [Sg.upd, hj], Still.refl _ _ _ _⟩, fun _ h => ⟨h, rfl⟩⟩
  · by_cases hj : j = k
    · subst hj
      right
      intro r hr
      have : (σ.upd (.box j row)).cell j c = row.getD c (.t .top) := by simp [Sg.upd]
      rw [this] at hr
      rcases Nat.lt_or_ge c row.length with q | q
      · rw [List.getD, List.getElem?_eq_getElem q] at hr
        simp only [Option.getD_some] at hr
        rw [hd _ (List.getElem_mem q)] at hr
        cases hr
      · rw [List.getD, List.getElem?_eq_none q] at hr
        simp [C.roots] at hr
    · left; simp [Sg.upd, hj]

section
variable {E : Env} {N : Nat} {o : Oper} {σ : Sg}
/-- How a call runs, once its operands are known. -/
theorem callG_gen (hN : okOper N o = true) {f : Nat} {fa : List SV} {rs out : List AR} {cl : Bool} {res : SV} (hret : Returns E f fa rs res out) (hcl : cl = true ∨ (res.noFz = true ∧ out.all AR.noFz = true)) {am : List Nat} (hnd : am.Nodup) (hlen : am.length ≤ 1000)
    {σ1 : Sg} {us vs : List Upd} {md : Option AR} {ok : Prop} (hσ1 : σ.upds us = σ1) (sm : Same σ σ1) {a : Act} {w : World} {g g1 : Gh} (hc1 : Core E σ1 a.tmps w g1) (m1 : Move w g w g1) (hs : a.tmps.size = N) (hl : LIM ≤ g.lim)
    (lent : LentG σ1 am am rs) (back : BackG σ1 am am out vs md) {vals : Array Value} (hsize : vals.size = fa.length) (hargs : ∀ (n : Nat) z, fa[n]? = some z → SVRep w (lendGh am cl g1) noDirt (.slot n) 0 z (vals.getD n undef))
    (hfa : ∀ z ∈ fa, z.flat = true ∧ ∀ r ∈ z.roots, ∃ j, r = .obj j ∧ j < am.length) (hput : ((putG o res md (us ++ vs) ok).run σ).ok) (hex : (execOp a.eval o).run E.P w = .ok (.enter f vals) w)
    {K : Act → World → Prop} {Q : Exit → Act → World → Prop} (hK : ∀ a' w' g', Core E (σ.upds ((putG o res md (us ++ vs) ok).run σ).upd) a'.tmps w' g' → Move w g w' g' → a'.tmps.size = N → a'.defers = a.defers → K a' w') : o.wp E.P a w K Q := by
  obtain ⟨hcall, hrun⟩ := hret
  obtain ⟨rl, rat⟩ := lent.at
  have bat := back.at
  obtain ⟨md1, md2, md3, md4, md5⟩ := back.made 0 (by omega)
  obtain ⟨v0, v1, v2⟩ := lent.vis 0
  have amlt : ∀ {j k : Nat}, am[j]? = some k → j < 1000 := fun h => by have := lt_of_getElem? h; omega
  have ixat : ∀ {j k : Nat}, am[j]? = some k → idxK k 0 am = some j := fun h => idxK_of hnd h
  have amMade : am[MADE]? = none := List.getElem?_eq_none (by unfold MADE; omega)
  generalize hgl : lendGh am cl g1 = gl at hargs
  have gllim : gl.lim = g.lim := by subst hgl; exact m1.lim
  have glbl : ∀ {j k : Nat}, am[j]? = some k → gl.bl j = g1.bl k := fun h => by subst hgl; simp [lendGh, h]
  have glhd : ∀ {j k : Nat}, am[j]? = some k → ∀ c p, gl.hd ⟨.obj j, c, p⟩ = g1.hd ⟨.obj k, c, p⟩ := fun h c p => by subst hgl; simp [lendGh, h]
  have glfz : ∀ b, g1.ow b = .frozen → gl.ow b = .frozen := fun b h => by subst hgl; simp [lendGh, h]
  have glot : ∀ b, g1.ow b = .other → gl.ow b = .other := fun b h => by subst hgl; simp [lendGh, h]
  have glbox : ∀ {b j k : Nat}, g1.ow b = .box k → am[j]? = some k → gl.ow b = .box j := fun h h2 => by subst hgl; simp [lendGh, h, ixat h2]
  have glboxo : ∀ {b k : Nat}, g1.ow b = .box k → k ∉ am → gl.ow b = .other := fun {b k} h h2 => by
    subst hgl
    simp only [lendGh, h]
    cases hi : idxK k 0 am with
    | none => rfl
    | some j => exact absurd (List.mem_of_getElem? (idxK_at hi)) h2
  have glown : ∀ {b j k c : Nat} {p}, g1.ow b = .own ⟨.obj k, c, p⟩ → am[j]? = some k → gl.ow b = .own ⟨.obj j, c, p⟩ := fun h h2 => by subst hgl; simp [lendGh, h, ixat h2]
  have glowno : ∀ {b : Nat} {x : CA}, g1.ow b = .own x → x.root ≠ .ret → (∀ k, x.root = .obj k → k ∉ am) → gl.ow b = .frozen ∨ gl.ow b = .other := fun {b x} h h1 h2 => by
    subst hgl
    simp only [lendGh, h]
    cases hx : x.root with
    | ret => exact absurd hx h1
    | obj k =>
      simp only
      cases hi : idxK k 0 am with
      | none => simp only; cases cl <;> simp
      | some j => exact absurd (List.mem_of_getElem? (idxK_at hi)) (h2 k hx)
    | slot n => simp only; cases cl <;> simp
    | new n => simp only; cases cl <;> simp
  have glfro : cl = true → ∀ b, gl.ow b = .frozen → g1.ow b = .frozen := fun hc b => by
    subst hgl
    simp only [lendGh, hc, if_true]
    cases g1.ow b with
    | own x =>
      simp only
      cases x.root with
      | obj k => simp only; cases idxK k 0 am <;> simp
      | _ => simp
    | box k => simp only; cases idxK k 0 am <;> simp
    | frozen => simp
    | other => simp
  -- the entry
  have hent : Core E (entrySt fa rs).sg vals w gl := by
    have hob : ∀ j zs, lk j (obsOf 0 rs) = some zs → rs[j]? = some (.box zs) := fun j zs h => by have := (v1 j zs h).2; simpa using this
    have hmp : ∀ j es, lk j (mpsOf 0 rs) = some es → rs[j]? = some (.map es) := fun j es h => by have := (v2 j es h).2; simpa using this
    have hcell : ∀ j c, (entrySt fa rs).sg.cell j c = match lk j (obsOf 0 rs) with | some row => row.getD c (.t .top) | none => .t .top := by
      intro j c
      show (entrySt fa rs).cell j c = _
      simp only [St.cell, entrySt, v0, lk]
      cases lk j (obsOf 0 rs) <;> rfl
    refine ⟨fun n => ?_, fun n => ?_, fun n r hr => ?_, fun j c r hr => ?_, fun j kd h => ?_, fun j es h => ?_, fun b hb => ?_, hc1.size⟩
    · show SVRep w gl noDirt (.slot n) 0 ((entrySt fa rs).slot n) _
      rw [entry_slot]
      cases hn : fa[n]? with
      | none => exact .c (.t (.fro .top))
      | some z => exact hargs n z hn
    · show ((entrySt fa rs).slot n).flat = true
      rw [entry_slot]
      cases hn : fa[n]? with
      | none => rfl
      | some z => exact (hfa z (List.mem_of_getElem? hn)).1
    · have hr : r ∈ ((entrySt fa rs).slot n).roots := hr
      rw [entry_slot] at hr
      cases hn : fa[n]? with
      | none => rw [hn] at hr; simp [SV.roots, C.roots] at hr
      | some z =>
        rw [hn] at hr
        obtain ⟨j, rfl, hj⟩ := (hfa z (List.mem_of_getElem? hn)).2 r hr
        exact .inl (by omega)
    · rw [hcell] at hr
      cases ho : lk j (obsOf 0 rs) with
      | none => rw [ho] at hr; simp [C.roots] at hr
      | some zs =>
        rw [ho] at hr
        simp only at hr
        have hrs := hob j zs ho
        have hjl := lt_of_getElem? hrs
        rw [rl] at hjl
        rcases rat j am[j] (List.getElem?_eq_getElem hjl) with ⟨n, zs', q1, q2, q3, q4⟩ | ⟨es, q1, _⟩
        · rw [hrs] at q1
          cases q1
          rcases Nat.lt_or_ge c zs.length with q | q
          · rw [List.getD, List.getElem?_eq_getElem q] at hr
            obtain ⟨i, rfl, hi⟩ := (q4 c zs[c] (List.getElem?_eq_getElem q)).roots r hr
            exact .inl (by omega)
          · rw [List.getD, List.getElem?_eq_none q] at hr
            simp [C.roots] at hr
        · rw [hrs] at q1; cases q1
    · have h : (entrySt fa rs).kind j = some kd := h
      simp only [St.kind, entrySt, v0, lk] at h
      cases ho : lk j (obsOf 0 rs) with
      | none => rw [ho] at h; cases h
      | some zs =>
        rw [ho] at h
        simp only [Option.some.injEq] at h
        subst h
        have hrs := hob j zs ho
        have hjl := lt_of_getElem? hrs
        rw [rl] at hjl
        have hj : am[j]? = some am[j] := List.getElem?_eq_getElem hjl
        generalize am[j] = k at hj
        rcases rat j k hj with ⟨n, zs', q1, q2, q3, q4⟩ | ⟨es, q1, _⟩
        · rw [hrs] at q1
          cases q1
          obtain ⟨cs, el, b1, b2, b3, b4, b5⟩ := hc1.objs k _ q2
          refine ⟨cs, el, by rw [glbl hj]; exact b1, by rw [glbl hj]; exact glbox b2 hj, by rw [glbl hj, q3]; exact b3, by rw [glbl hj, q3]; exact b4, fun c hcl => ?_⟩
          obtain ⟨u, f1, f2⟩ := b5 c (by omega)
          refine ⟨u, by rw [glbl hj]; exact f1, ?_⟩
          rw [hcell, ho]
          simp only [List.getD, List.getElem?_eq_getElem hcl, Option.getD_some]
          have hm := q4 c zs[c] (List.getElem?_eq_getElem hcl)
          generalize zs[c] = z at hm
          generalize σ1.cell k c = x at hm f2
          by_cases hown : x.isOwn = true
          · cases hm with
            | t =>
              cases f2 with
              | t f2 =>
                exact .t (Rep.map (w' := w) (g' := gl) (fun a => { a with root := .obj j }) f2 (by rw [gllim, m1.lim]; exact Nat.le_refl _) (fun _ _ _ => rfl) (fun b _ hb => ⟨glfz b hb, rfl⟩) (fun b a' _ ha hb => ⟨by
                  have e : a' = ⟨.obj k, a'.c, a'.path⟩ := by cases a'; have := ha.1; simp only at this; rw [this]
                  rw [e] at hb
                  exact glown hb hj, rfl⟩) (fun a' ha => by
                  show gl.hd ⟨.obj j, a'.c, a'.path⟩ = _
                  rw [glhd hj a'.c a'.path]
                  congr 1
                  cases a'
                  have := ha.1
                  simp only at this
                  rw [this]))
            | _ => cases hown
          · exact hm.rep (by simpa using hown) (by rw [gllim, m1.lim]; exact Nat.le_refl _) (fun b _ h => glfz b h) (fun _ _ h => glbl h) f2
        · rw [hrs] at q1; cases q1
    · have h : lk j (mpsOf 0 rs) = some es := h
      have hrs := hmp j es h
      have hjl := lt_of_getElem? hrs
      rw [rl] at hjl
      have hj : am[j]? = some am[j] := List.getElem?_eq_getElem hjl
      generalize am[j] = k at hj
      rcases rat j k hj with ⟨n, zs', q1, _⟩ | ⟨es', q1, q2, q3⟩
      · rw [hrs] at q1; cases q1
      · rw [hrs] at q1
        cases q1
        obtain ⟨el, ck, e1, e2, e3, e4⟩ := hc1.maps k es q3
        refine ⟨el, ck, by rw [glbl hj]; exact e1, by rw [glbl hj]; exact glbox e2 hj, e3, fun i p x a1 a2 => ?_⟩
        obtain ⟨b1, b2⟩ := e4 i p x a1 a2
        have hlim : g1.lim ≤ gl.lim := by rw [gllim, m1.lim]; exact Nat.le_refl _
        exact ⟨b1.frame hlim fun b _ h => ⟨glfz b h, rfl⟩, b2.frame hlim fun b _ h => ⟨glfz b h, rfl⟩⟩
    · obtain ⟨q1, q2⟩ := hc1.glob b hb
      exact ⟨glot b q1, q2⟩
  unfold Oper.wp
  rw [hex, Oper.upon_enter]
  refine Calls.mono (hrun w gl vals (by rw [gllim]; exact hl) hsize hent) fun e w' he => ?_
  cases e with
  | panicked c => exact he.elim
  | outgrown => exact he.elim
  | returned v =>
    obtain ⟨gh, hres, hco, hmv⟩ := he
    simp only
    have hmem : ∀ b, b < w.heap.size → (gl.ow b = .frozen ∨ gl.ow b = .other) → gh.ow b = gl.ow b ∧ w'.heap[b]? = w.heap[b]? := fun b hb h => hmv.keep b hb h
    -- the caller's state, after
    obtain ⟨ef, ec, en, em, eo, ed⟩ := back.eff σ1 rfl hnd
    generalize hσ2 : σ1.upds vs = σ2 at ef ec en em eo ed
    have hex2 : ∀ r, σ1.ex r → σ2.ex r := by
      intro r h
      cases r with
      | obj k =>
        rcases h with h | h | h
        · exact .inl h
        · exact .inr (.inl (by rw [ef.kind]; exact h))
        · refine .inr (.inr ?_)
          by_cases hk : ∃ (j : Nat) (es : List (T × T)), am[j]? = some k ∧ out[j]? = some (.map es)
          · obtain ⟨j, es, q1, q2⟩ := hk
            rw [em j k es q1 q2]
            simp
          · rw [eo k fun j es q1 q2 => hk ⟨j, es, q1, q2⟩]
            exact h
      | new n => have : σ1.isnew n = true := h; show σ2.isnew n = true; rw [ef.isnew]; exact this
      | _ => exact h
    have main : ∀ (r0 : Root) (kd : Nat) (mdb : Bool), ¬ σ1.ex r0 → (∀ k, r0 ≠ .obj k) → (mdb = true → ¬ σ1.ex (.obj kd) ∧ kd ∉ am) →
        ∀ g2, g2 = retGh w.heap.size am (fun k => match σ1.kind k with | some (.box n) => n | _ => 0) r0 kd mdb g1 gl gh → Core E σ2 a.tmps w' g2 ∧ Move w g w' g2 ∧
          (∀ (r r' : Root) (c : Nat) (t : T) (u : Value), (cl = true ∨ t.noFz = true) → (∀ b x, gh.ow b = .own x → x.root = r → g2.ow b = .own { x with root := r' } ∨ (b < w.heap.size ∧ (gl.ow b = .frozen ∨ gl.ow b = .other))) → (∀ p, g2.hd ⟨r', c, p⟩ = gh.hd ⟨r, c, p⟩) → Rep w' gh ⟨r, c, []⟩ t u → Rep w' g2 ⟨r', c, []⟩ t u) ∧
          (∀ b, ¬ (b < w.heap.size ∧ (gl.ow b = .frozen ∨ gl.ow b = .other)) → g2.ow b = match gh.ow b with
            | .own a => match a.root with
              | .ret => .own { a with root := r0 }
              | .obj j => match am[j]? with | some k => .own ⟨.obj k, a.c, a.path⟩ | none => if j = MADE ∧ mdb = true then .own ⟨.obj kd, a.c, a.path⟩ else .other
              | _ => .other
            | .box j => match am[j]? with | some k => .box k | none => if j = MADE ∧ mdb = true then .box kd else .other
            | t => t) ∧ (cl = true → ∀ b, gh.ow b = .frozen → g2.ow b = .frozen) := by
      intro r0 kd mdb hr0 hr0o hkd g2 hg2
      have g2lim : g2.lim = g1.lim := by subst hg2; rfl
      have g2bl : ∀ k, σ1.ex (.obj k) → g2.bl k = g1.bl k := fun k hk => by
        subst hg2
        simp only [retGh]
        rw [if_neg]
        rintro ⟨rfl, q⟩
        exact (hkd q).1 hk
      have pas : ∀ b, b < w.heap.size → (gl.ow b = .frozen ∨ gl.ow b = .other) → g2.ow b = g1.ow b := fun b hb h => by subst hg2; simp only [retGh]; rw [if_pos ⟨hb, h⟩]
      have act : ∀ b, ¬ (b < w.heap.size ∧ (gl.ow b = .frozen ∨ gl.ow b = .other)) → g2.ow b = match gh.ow b with
          | .own a => match a.root with
            | .ret => .own { a with root := r0 }
            | .obj j => match am[j]? with | some k => .own ⟨.obj k, a.c, a.path⟩ | none => if j = MADE ∧ mdb = true then .own ⟨.obj kd, a.c, a.path⟩ else .other
            | _ => .other
          | .box j => match am[j]? with | some k => .box k | none => if j = MADE ∧ mdb = true then .box kd else .other
          | t => t := fun b h => by subst hg2; simp only [retGh]; rw [if_neg h]
      have hdother : ∀ r c p, σ1.ex r → (∀ k, r = .obj k → k ∉ am ∨ ∀ n, σ1.kind k = some (.box n) → n ≤ c) → g2.hd ⟨r, c, p⟩ = g1.hd ⟨r, c, p⟩ := fun r c p hr hk => by
        subst hg2
        simp only [retGh]
        rw [if_neg (fun e => hr0 (by rw [← e]; exact hr))]
        cases r with
        | obj k =>
          simp only
          rw [if_neg (by rintro ⟨rfl, q⟩; exact (hkd q).1 hr)]
          cases hi : idxK k 0 am with
          | none => rfl
          | some j =>
            simp only
            rcases hk k rfl with q | q
            · exact absurd (List.mem_of_getElem? (idxK_at hi)) q
            · cases hkk : σ1.kind k with
              | none => simp
              | some kd' =>
                cases kd' with
                | virt => simp
                | box n =>
                  simp only
                  rw [if_neg (by have := q n hkk; omega)]
        | _ => rfl
      have hdlent : ∀ {j k n : Nat}, am[j]? = some k → σ1.kind k = some (.box n) → ∀ c p, c < n → g2.hd ⟨.obj k, c, p⟩ = gh.hd ⟨.obj j, c, p⟩ := fun {j k n} hj hk c p hc => by
        subst hg2
        simp only [retGh]
        rw [if_neg (fun e => hr0o k e.symm), if_neg (by rintro ⟨rfl, q⟩; exact (hkd q).2 (List.mem_of_getElem? hj)), ixat hj]
        simp only [hk]
        rw [if_pos hc]
      have fzk : ∀ b, b < w.heap.size → g1.ow b = .frozen → g2.ow b = .frozen ∧ w'.heap[b]? = w.heap[b]? := fun b hb h => ⟨(pas b hb (.inl (glfz b h))).trans h, (hmem b hb (.inl (glfz b h))).2⟩
      have otk : ∀ b, b < w.heap.size → g1.ow b = .other → g2.ow b = .other ∧ w'.heap[b]? = w.heap[b]? := fun b hb h => ⟨(pas b hb (.inr (glot b h))).trans h, (hmem b hb (.inr (glot b h))).2⟩
      have bxo : ∀ b k, b < w.heap.size → g1.ow b = .box k → k ∉ am → g2.ow b = .box k ∧ w'.heap[b]? = w.heap[b]? := fun b k hb h hk => ⟨(pas b hb (.inr (glboxo h hk))).trans h, (hmem b hb (.inr (glboxo h hk))).2⟩
      have bxl : ∀ b k j, b < w.heap.size → g1.ow b = .box k → am[j]? = some k → gh.ow b = .box j ∧ g2.ow b = .box k := fun b k j hb h hj => by
        have q1 := glbox h hj
        have q2 := (hmv.box b j hb (amlt hj) q1).1
        refine ⟨q2, ?_⟩
        rw [act b (by rintro ⟨_, q | q⟩ <;> rw [q1] at q <;> cases q), q2]
        simp only [hj]
      have owk : ∀ b x, b < w.heap.size → g1.ow b = .own x → x.root ≠ .ret → (∀ k, x.root = .obj k → k ∉ am) → g2.ow b = .own x ∧ w'.heap[b]? = w.heap[b]? := fun b x hb h h1 h2 => ⟨(pas b hb (glowno h h1 h2)).trans h, (hmem b hb (glowno h h1 h2)).2⟩
      have hnret : ∀ r, σ1.ex r → r ≠ .ret := fun r hr e => by rw [e] at hr; exact hr
      have hst : ∀ r c, σ1.ex r → (∀ k, r = .obj k → k ∉ am) → Still w w' g1 g2 r c := fun r c hr hk => ⟨fun b p hb h => owk b _ hb h (hnret r hr) hk, fun p => hdother r c p hr fun k e => .inl (hk k e)⟩
      have fzb : cl = true → ∀ b, gh.ow b = .frozen → g2.ow b = .frozen := fun hcl b hb => by
        by_cases hcond : b < w.heap.size ∧ (gl.ow b = .frozen ∨ gl.ow b = .other)
        · have h1 := (hmem b hcond.1 hcond.2).1
          rw [hb] at h1
          rw [pas b hcond.1 hcond.2]
          exact glfro hcl b h1.symm
        · rw [act b hcond, hb]
      have hlim2 : gh.lim ≤ g2.lim := by rw [hmv.lim, gllim, g2lim, m1.lim]; exact Nat.le_refl _
      have move1 : ∀ (r r' : Root) (c : Nat) (t : T) (u : Value), (cl = true ∨ t.noFz = true) → (∀ b x, gh.ow b = .own x → x.root = r → g2.ow b = .own { x with root := r' } ∨ (b < w.heap.size ∧ (gl.ow b = .frozen ∨ gl.ow b = .other))) → (∀ p, g2.hd ⟨r', c, p⟩ = gh.hd ⟨r, c, p⟩) → Rep w' gh ⟨r, c, []⟩ t u → Rep w' g2 ⟨r', c, []⟩ t u := by
        intro r r' c t u hn hown hhd hr
        have how : ∀ b a', a'.under ⟨r, c, []⟩ → gh.ow b = .own a' → g2.ow b = .own { a' with root := r' } := fun b a' ha hb => by
          rcases hown b a' hb ha.1 with q | ⟨q1, q2⟩
          · exact q
          · have := (hmem b q1 q2).1
            rw [hb] at this
            rcases q2 with q2 | q2 <;> rw [q2] at this <;> cases this
        have hh : ∀ a', a'.under ⟨r, c, []⟩ → g2.hd { a' with root := r' } = gh.hd a' := fun a' ha => by
          obtain ⟨q1, q2, _⟩ := ha
          have := hhd a'.path
          cases a'
          simp only at q1 q2
          subst q1 q2
          exact this
        rcases hn with hn | hn
        · exact hr.map (fun a' => { a' with root := r' }) hlim2 (fun _ _ _ => rfl) (fun b _ hb => ⟨fzb hn b hb, rfl⟩) (fun b a' _ ha hb => ⟨how b a' ha hb, rfl⟩) hh
        · exact hr.mapN (fun a' => { a' with root := r' }) hn hlim2 (fun _ _ _ => rfl) (fun b a' _ ha hb => ⟨how b a' ha hb, rfl⟩) hh
      refine ⟨?_, ⟨hmv.size, g2lim.trans m1.lim, fun b hb h => ?_, fun k hk => ?_, fun b k hb hk h => ?_, ⟨hmv.env.1, hmv.env.2.1, hmv.env.2.2⟩, fun k c p hk hz => ?_⟩, move1, act, fzb⟩
      · refine Core.step hc1 ⟨by rw [g2lim]; exact Nat.le_refl _, fzk, fun r c hr hd => ⟨ef.dirt r c hd, fun p => hdother r c p hr fun k e => ?_⟩, fun k hk => g2bl k hk⟩
          (fun n => .inl ⟨by rw [ef.slot], by rw [ef.isnew], rfl, fun c => hst _ c (σ1.rt_ex n) fun k e => absurd e (σ1.rt_ne_obj n k)⟩) (fun k kd' h => ?_) (fun k c => ?_) (fun k es h => ?_) hex2 (fun b hb => ?_) hmv.size
        · subst e
          by_cases hk : k ∈ am
          · right
            intro n hkn
            obtain ⟨j, hj⟩ := List.getElem?_of_mem hk
            rcases Nat.lt_or_ge c n with q | q
            · rcases bat j k hj with ⟨n', zs, row, q1, q2, q3, q4⟩ | ⟨es, e0, q1, q2⟩
              · rw [hkn] at q2
                cases q2
                have := (ec j k zs row hj q1 q3 c row[c] (List.getElem?_eq_getElem (by omega))).2
                rw [hd] at this
                cases this
              · rcases rat j k hj with ⟨_, _, _, _⟩ | ⟨_, _, q5, _⟩
                · rename_i q5
                  exfalso
                  -- a lent box has no map
                  rcases rat j k hj with ⟨n5, zs5, q6, q7, q8, q9⟩ | ⟨es5, q6, q7, q8⟩
                  · have := (lent_nomap lent) j k hj (by rw [q7]; simp)
                    rw [q2] at this
                    cases this
                  · rw [hkn] at q7; cases q7
                · rw [hkn] at q5; cases q5
            · exact q
          · exact .inl hk
        · rw [ef.kind] at h
          by_cases hk : k ∈ am
          · obtain ⟨j, hj⟩ := List.getElem?_of_mem hk
            right
            have hexk : σ1.ex (.obj k) := .inr (.inl (by rw [h]; simp))
            rcases bat j k hj with ⟨n, zs, row, q1, q2, q3, q4⟩ | ⟨es, e0, q1, q2⟩
            · rw [h] at q2
              cases q2
              obtain ⟨u1, u2⟩ := unCs_at q3
              have hko : (entrySt [] out).sg.kind j = some (.box zs.length) := by
                show (entrySt [] out).kind j = _
                simp only [St.kind, entrySt, lk_obs_at out 0 j (Nat.zero_le _) (by have := amlt hj; unfold MADE; omega) (by simpa using q1)]
              obtain ⟨cs, el, b1, b2, b3, b4, b5⟩ := hco.objs j _ hko
              have hb0 : g2.bl k = gh.bl j := by rw [g2bl k hexk, hmv.bl j (amlt hj), glbl hj]
              obtain ⟨cs0, el0, o1, o2, o3, o4, _⟩ := hc1.objs k _ h
              have hblk : (gh.bl j).1 = (g1.bl k).1 := by rw [← hb0, g2bl k hexk]
              refine ⟨cs, el, by rw [hb0]; exact b1, ?_, by rw [hb0, b3]; omega, by rw [hb0]; omega, fun c hcn => ?_⟩
              · rw [g2bl k hexk]
                exact (bxl _ k j (lt_of_heap o1) o2 hj).2
              · obtain ⟨u, f1, f2⟩ := b5 c (by omega)
                refine ⟨u, by rw [hb0]; exact f1, ?_⟩
                have hcz : c < zs.length := by omega
                obtain ⟨x, hx1, hx2⟩ := u2 c zs[c] (List.getElem?_eq_getElem hcz)
                rw [(ec j k zs row hj q1 q3 c x hx1).1]
                have hcell : (entrySt [] out).sg.cell j c = zs[c] := by
                  show (entrySt [] out).cell j c = _
                  simp only [St.cell, entrySt, lk_obs_at out 0 j (Nat.zero_le _) (by have := amlt hj; unfold MADE; omega) (by simpa using q1)]
                  simp [List.getD, hcz]
                rw [hcell] at f2
                have hnf : cl = true ∨ zs[c].noFz = true := by
                  rcases hcl with q | ⟨_, q⟩
                  · exact .inl q
                  · right
                    simp only [List.all_eq_true] at q
                    have := q _ (List.mem_of_getElem? q1)
                    simp only [AR.noFz, List.all_eq_true] at this
                    exact this _ (List.getElem_mem hcz)
                generalize zs[c] = z at f2 hx2 hnf
                cases z with
                | t y =>
                  simp only [unC, Option.some.injEq] at hx2
                  subst hx2
                  cases f2 with
                  | t f2 =>
                    refine .t (move1 (.obj j) (.obj k) c y u (hnf.imp id fun h => h) (fun b x hb hx => ?_) (fun p => hdlent hj h c p hcn) f2)
                    by_cases hcond : b < w.heap.size ∧ (gl.ow b = .frozen ∨ gl.ow b = .other)
                    · exact .inr hcond
                    · left
                      rw [act b hcond, hb]
                      simp only [hx, hj]
                | mp j' =>
                  simp only [unC] at hx2
                  split at hx2
                  · rename_i k' hk'
                    cases hx2
                    cases f2 with
                    | mp f2 =>
                      refine .mp ?_
                      rw [f2, hmv.bl j' (amlt hk'), glbl hk']
                      have : g2.bl k' = g1.bl k' := by
                        subst hg2
                        simp only [retGh]
                        rw [if_neg]
                        rintro ⟨rfl, q⟩
                        exact (hkd q).2 (List.mem_of_getElem? hk')
                      rw [this]
                  · cases hx2
                | _ => cases hx2
            · exfalso
              have := (lent_nomap lent) j k hj (by rw [h]; simp)
              rw [q2] at this
              cases this
          · left
            exact ⟨h, fun c => ⟨en k c (.inl hk), hst _ c (.inr (.inl (by rw [h]; simp))) fun k' e => by cases e; exact hk⟩, fun hb h2 => bxo _ k hb h2 hk⟩
        · by_cases hk : k ∈ am
          · obtain ⟨j, hj⟩ := List.getElem?_of_mem hk
            rcases bat j k hj with ⟨n, zs, row, q1, q2, q3, q4⟩ | ⟨es, e0, q1, q2⟩
            · rcases Nat.lt_or_ge c n with q | q
              · right
                obtain ⟨u1, u2⟩ := unCs_at q3
                have hcz : c < zs.length := by omega
                obtain ⟨x, hx1, hx2⟩ := u2 c zs[c] (List.getElem?_eq_getElem hcz)
                rw [(ec j k zs row hj q1 q3 c x hx1).1]
                intro r hr
                generalize zs[c] = z at hx2
                cases z with
                | t y => simp only [unC, Option.some.injEq] at hx2; subst hx2; simp [C.roots] at hr
                | mp j' =>
                  simp only [unC] at hx2
                  split at hx2
                  · rename_i k' hk'
                    cases hx2
                    simp only [C.roots, List.mem_singleton] at hr
                    subst hr
                    apply hex2
                    rcases rat j' k' hk' with ⟨n', _, _, w1, _⟩ | ⟨es', _, _, w1⟩
                    · exact .inr (.inl (by rw [w1]; simp))
                    · exact .inr (.inr (by rw [w1]; simp))
                  · cases hx2
                | _ => cases hx2
              · left
                exact en k c (.inr fun n' h => by rw [q2] at h; cases h; exact q)
            · left
              refine en k c (.inr fun n' h => ?_)
              have := (lent_nomap lent) j k hj (by rw [h]; simp)
              rw [q2] at this
              cases this
          · exact .inl (en k c (.inl hk))
        · by_cases hk : ∃ (j : Nat) (es : List (T × T)), am[j]? = some k ∧ out[j]? = some (.map es)
          · obtain ⟨j, es', q1, q2⟩ := hk
            rw [em j k es' q1 q2] at h
            cases h
            right
            have hko : lk j (mpsOf 0 out) = some es := lk_mps_at out 0 j (Nat.zero_le _) (by have := amlt q1; unfold MADE; omega) (by simpa using q2)
            obtain ⟨el, ck, e1, e2, e3, e4⟩ := hco.maps j es hko
            have hm1 : ∃ e0, σ1.mp k = some e0 := by
              rcases bat j k q1 with ⟨n, zs, row, w1, _⟩ | ⟨es2, e0, w1, w2⟩
              · rw [q2] at w1; cases w1
              · exact ⟨e0, w2⟩
            obtain ⟨e0, hm1⟩ := hm1
            have hexk : σ1.ex (.obj k) := .inr (.inr (by rw [hm1]; simp))
            have hb0 : g2.bl k = gh.bl j := by rw [g2bl k hexk, hmv.bl j (amlt q1), glbl q1]
            obtain ⟨l0, ck0, o1, o2, _, _⟩ := hc1.maps k e0 hm1
            have hcase : cl = true ∨ es.all (fun e => e.1.noFz && e.2.noFz) = true := by
              rcases hcl with q | ⟨_, q⟩
              · exact .inl q
              · right
                rw [List.all_eq_true] at q
                exact q _ (List.mem_of_getElem? q2)
            have conv : ∀ (t : T) (u : Value), (cl = true ∨ t.noFz = true) → FRep w' gh t u → FRep w' g2 t u := by
              intro t u hn hr
              rcases hn with hn | hn
              · exact hr.frame hlim2 fun b _ h => ⟨fzb hn b h, rfl⟩
              · cases hr with
                | int => exact .int
                | bool => exact .bool
                | str h => exact .str (Nat.le_trans h hlim2)
                | val => exact .val
                | top => exact .top
                | nil => exact .nil
                | may h h' => exact .may h h'
                | fnil => exact .fnil
                | @fz b off cap sz xs cs el fr vs hh ho hcap hlim hrow hcell hrec =>
                  rw [T.noFz_sl] at hn
                  simp only [Bool.false_or, Bool.and_eq_true, List.isEmpty_iff] at hn
                  have : xs = [] := hn.1
                  subst this
                  exact .fnil
            refine ⟨el, ck, by rw [hb0]; exact e1, ?_, e3, fun i p x a1 a2 => ?_⟩
            · rw [g2bl k hexk]
              exact (bxl _ k j (lt_of_heap o1) o2 q1).2
            · obtain ⟨b1, b2⟩ := e4 i p x a1 a2
              refine ⟨conv _ _ (hcase.imp id fun h => ?_) b1, conv _ _ (hcase.imp id fun h => ?_) b2⟩
              · rw [List.all_eq_true] at h
                have := h p (List.mem_of_getElem? a1)
                simp only [Bool.and_eq_true] at this
                exact this.1
              · rw [List.all_eq_true] at h
                have := h p (List.mem_of_getElem? a1)
                simp only [Bool.and_eq_true] at this
                exact this.2
          · rw [eo k fun j es' q1 q2 => hk ⟨j, es', q1, q2⟩] at h
            left
            refine ⟨h, fun hb h2 => ?_⟩
            by_cases hkm : k ∈ am
            · obtain ⟨j, hj⟩ := List.getElem?_of_mem hkm
              exfalso
              rcases bat j k hj with ⟨n, zs, row, w1, w2, _⟩ | ⟨es2, e0, w1, w2⟩
              · have := (lent_nomap lent) j k hj (by rw [w2]; simp)
                rw [h] at this
                cases this
              · exact hk ⟨j, es2, hj, w1⟩
            · exact bxo _ k hb h2 hkm
        · have q := (hc1.glob b hb).1
          obtain ⟨q1, q2⟩ := otk b (Nat.lt_of_lt_of_le hb hc1.size) q
          exact ⟨q1.trans q.symm, q2⟩
      · obtain ⟨p1, p2⟩ := m1.keep b hb h
        rcases h with h | h
        · obtain ⟨q1, q2⟩ := fzk b hb (p1.trans h)
          exact ⟨q1.trans h.symm, q2⟩
        · obtain ⟨q1, q2⟩ := otk b hb (p1.trans h)
          exact ⟨q1.trans h.symm, q2⟩
      · rw [g2bl k (.inl (by omega)), m1.bl k hk]
      · obtain ⟨p1, p2⟩ := m1.box b k hb hk h
        by_cases hkm : k ∈ am
        · obtain ⟨j, hj⟩ := List.getElem?_of_mem hkm
          obtain ⟨q1, q2⟩ := bxl b k j hb p1 hj
          refine ⟨q2, fun cs el fr hh => ?_⟩
          obtain ⟨_, q3⟩ := hmv.box b j hb (amlt hj) (glbox p1 hj)
          obtain ⟨cs', w1, w2, w3⟩ := q3 cs el fr hh
          refine ⟨cs', w1, w2, fun i hi => w3 i ?_⟩
          rw [glbl hj, m1.bl k hk]
          exact hi
        · obtain ⟨q1, q2⟩ := bxo b k hb p1 hkm
          exact ⟨q1, fun cs el fr hh => ⟨cs, q2.trans hh, rfl, fun _ _ => rfl⟩⟩
      · have hexk : σ1.ex (.obj k) := .inl (by omega)
        rw [hdother (.obj k) c p hexk fun k' e => ?_]
        · exact m1.vhd k c p hk hz
        · cases e
          right
          intro n hn
          obtain ⟨_, _, _, _, b3, _, _⟩ := hc1.objs k _ hn
          rw [m1.bl k hk, hz] at b3
          omega
    have hupd : ∀ rest : List Upd, σ.upds ((us ++ vs) ++ rest) = σ2.upds rest := fun rest => by rw [upds_append, upds_append, hσ1, hσ2]
    have hn2 : σ2.isnew = σ.isnew := ef.isnew.trans sm.isnew
    have hexσ : σ1.ex = σ.ex := sm.ex
    unfold putG at hput hK
    cases md with
    | none =>
      simp only at hput hK
      by_cases hdata : res.data = true
      · rw [if_pos hdata] at hput hK
        obtain ⟨_, h2, h3⟩ := put_ok hput
        cases hd : o.dst with
        | none =>
          obtain ⟨e1, _⟩ := h3 hd
          obtain ⟨c2, mv2, _⟩ := main .ret 0 false (fun h => h) (fun k e => by cases e) (fun e => by cases e) _ rfl
          refine hK _ w' _ ?_ mv2 hs rfl
          rw [e1]
          have := hupd []
          rw [List.append_nil] at this
          rw [this]
          exact c2
        | some d =>
          obtain ⟨hn, e1, _⟩ := h2 d hd
          have hnew : ¬ σ1.ex (.new d) := fun h => by rw [hexσ] at h; simp [Sg.ex, hn] at h
          obtain ⟨c2, mv2, mo, act, _⟩ := main (.new d) 0 false hnew (fun k e => by cases e) (fun e => by cases e) _ rfl
          refine hK _ w' _ ?_ mv2 (by simpa [Act.put] using hs) rfl
          rw [e1, hupd]
          refine c2.put (by rw [hn2]; exact hn) ?_ (by rw [SV.data_roots hdata]; simp) (SV.data_flat hdata) (.inl (by rw [hs]; exact dst_lt hN hd))
          refine hres.mapData hdata fun c t u hnf hr => mo .ret (.new d) c t u (hcl.imp id fun h => hnf h.1) (fun b x hb hx => ?_) (fun p => by simp [retGh]) hr
          by_cases hcond : b < w.heap.size ∧ (gl.ow b = .frozen ∨ gl.ow b = .other)
          · exact .inr hcond
          · left
            rw [act b hcond, hb]
            simp only [hx]
      · rw [if_neg hdata] at hput; exact hput.elim
    | some mx =>
      have made : ∀ (d : Nat), o.dst = some d → σ.isnew d = false → σ.kind (100000 + d) = none → σ.mp (100000 + d) = none → ∀ g2, g2 = retGh w.heap.size am (fun k => match σ1.kind k with | some (.box n) => n | _ => 0) (.new d) (100000 + d) true g1 gl gh →
          Core E σ2 a.tmps w' g2 ∧ Move w g w' g2 ∧ g2.bl (100000 + d) = gh.bl MADE ∧ (∀ b, gh.ow b = .box MADE → g2.ow b = .box (100000 + d)) ∧ (∀ (c : Nat) (t : T) (u : Value), (cl = true ∨ t.noFz = true) → Rep w' gh ⟨.obj MADE, c, []⟩ t u → Rep w' g2 ⟨.obj (100000 + d), c, []⟩ t u) ∧
          (∀ (t : T) (u : Value), (cl = true ∨ t.noFz = true) → FRep w' gh t u → FRep w' g2 t u) := by
        intro d hd hn hk hm g2 hg2
        have hnew : ¬ σ1.ex (.new d) := fun h => by rw [hexσ] at h; simp [Sg.ex, hn] at h
        have hkd : ¬ σ1.ex (.obj (100000 + d)) ∧ (100000 + d) ∉ am := by
          have : ¬ σ1.ex (.obj (100000 + d)) := fun h => by
            rw [hexσ] at h
            simp only [Sg.ex] at h
            rw [hk, hm] at h
            rcases h with h | h | h
            · omega
            · exact h rfl
            · exact h rfl
          refine ⟨this, fun h => ?_⟩
          obtain ⟨j, hj⟩ := List.getElem?_of_mem h
          rcases rat j _ hj with ⟨n', _, _, w1, _⟩ | ⟨es', _, _, w1⟩
          · exact this (.inr (.inl (by rw [w1]; simp)))
          · exact this (.inr (.inr (by rw [w1]; simp)))
        obtain ⟨c2, mv2, mo, act, fzb⟩ := main (.new d) (100000 + d) true hnew (fun k e => by cases e) (fun _ => hkd) g2 hg2
        have glnm : ∀ b, gl.ow b = .frozen ∨ gl.ow b = .other → b < w.heap.size → gh.ow b = .frozen ∨ gh.ow b = .other := fun b h hb => by
          rw [(hmem b hb h).1]; exact h
        refine ⟨c2, mv2, by subst hg2; simp [retGh], fun b hb => ?_, fun c t u hnf hr => mo (.obj MADE) (.obj (100000 + d)) c t u hnf (fun b x hb hx => ?_) (fun p => by subst hg2; simp [retGh]) hr, fun t u hnf hr => ?_⟩
        · rw [act b (fun hcond => by have := glnm b hcond.2 hcond.1; rw [hb] at this; rcases this with h | h <;> cases h), hb]
          simp only [amMade]
          simp
        · left
          rw [act b (fun hcond => by have := glnm b hcond.2 hcond.1; rw [hb] at this; rcases this with h | h <;> cases h), hb]
          simp only [hx, amMade]
          simp
        · have hlim2 : gh.lim ≤ g2.lim := by subst hg2; rw [hmv.lim, gllim]; show _ ≤ g1.lim; rw [m1.lim]; exact Nat.le_refl _
          rcases hnf with hnf | hnf
          · exact hr.frame hlim2 fun b _ h => ⟨fzb hnf b h, rfl⟩
          · cases hr with
            | int => exact .int
            | bool => exact .bool
            | str h => exact .str (Nat.le_trans h hlim2)
            | val => exact .val
            | top => exact .top
            | nil => exact .nil
            | may h h' => exact .may h h'
            | fnil => exact .fnil
            | @fz b off cap sz xs cs el fr vs' hh ho hcap hlim hrow hcell hrec =>
              rw [T.noFz_sl] at hnf
              simp only [Bool.false_or, Bool.and_eq_true, List.isEmpty_iff] at hnf
              have : xs = [] := hnf.1
              subst this
              exact .fnil
      have hnfo : ∀ x, x ∈ out → cl = true ∨ x.noFz = true := fun x hx => hcl.imp id fun h => by have := h.2; rw [List.all_eq_true] at this; exact this x hx
      cases mx with
      | box x => exact absurd rfl (md4 x)
      | virt x => exact absurd rfl (md3 x)
      | map x => exact absurd rfl (md5 x)
      | mmap es =>
        simp only at hput hK
        cases hd : o.dst with
        | none => rw [hd] at hput; exact hput.elim
        | some d =>
          rw [hd] at hput hK
          simp only at hput hK
          rcases res with (⟨_ | _ | _ | _ | _ | k⟩ | _ | _)
          case c.mp =>
            simp only at hput hK
            by_cases hk0 : k = MADE
            · rw [if_pos hk0] at hput hK
              subst hk0
              simp only [Rd.run] at hput hK
              cases hk : σ.kind (100000 + d) with
              | some kd => rw [hk] at hput; exact hput.elim
              | none =>
                cases hm : σ.mp (100000 + d) with
                | some m => rw [hk, hm] at hput; exact hput.elim
                | none =>
                  rw [hk, hm] at hput hK
                  simp only at hput hK
                  obtain ⟨_, h2, _⟩ := put_ok hput
                  obtain ⟨hn, e1, _⟩ := h2 d hd
                  obtain ⟨c2, mv2, b2, t2, _, fr2⟩ := made d hd hn hk hm _ rfl
                  obtain ⟨q1, q2⟩ := md2 es rfl
                  obtain ⟨el, ck, w1, w2, w3, w4⟩ := hco.maps MADE es q1
                  have hes : cl = true ∨ es.all (fun e => e.1.noFz && e.2.noFz) = true := hnfo _ q2
                  have hmr : MapRep w' (retGh w.heap.size am (fun k => match σ1.kind k with | some (.box n) => n | _ => 0) (.new d) (100000 + d) true g1 gl gh) (100000 + d) es := by
                    refine ⟨el, ck, by rw [b2]; exact w1, by rw [b2]; exact t2 _ w2, w3, fun i p x a1 a2 => ?_⟩
                    obtain ⟨b1, b2'⟩ := w4 i p x a1 a2
                    refine ⟨fr2 _ _ (hes.imp id fun h => ?_) b1, fr2 _ _ (hes.imp id fun h => ?_) b2'⟩
                    · rw [List.all_eq_true] at h
                      have := h p (List.mem_of_getElem? a1)
                      simp only [Bool.and_eq_true] at this
                      exact this.1
                    · rw [List.all_eq_true] at h
                      have := h p (List.mem_of_getElem? a1)
                      simp only [Bool.and_eq_true] at this
                      exact this.2
                  refine hK _ w' _ ?_ mv2 (by simpa [Act.put] using hs) rfl
                  rw [e1]
                  have e3 : us ++ vs ++ [Upd.mp (100000 + d) es] ++ [Upd.slot d (.c (.mp (100000 + d)))] = (us ++ vs) ++ ([Upd.mp (100000 + d) es] ++ [Upd.slot d (.c (.mp (100000 + d)))]) := by simp
                  rw [e3, hupd]
                  show Core E ((σ2.upd (.mp (100000 + d) es)).upd (.slot d _)) _ w' _
                  refine (c2.addMap hmr).put (by show σ2.isnew d = false; rw [hn2]; exact hn) (.c (.mp ?_)) (fun r hr => ?_) rfl (.inl (by rw [hs]; exact dst_lt hN hd))
                  · cases hres with | c hres => cases hres with | mp hres => rw [hres, b2]
                  · simp only [SV.roots, C.roots, List.mem_singleton] at hr
                    subst hr
                    exact .inr (.inr (by simp [Sg.upd]))
            · rw [if_neg hk0] at hput; exact hput.elim
          all_goals exact hput.elim
      | mbox row =>
        simp only at hput hK
        cases hd : o.dst with
        | none => rw [hd] at hput; exact hput.elim
        | some d =>
          rw [hd] at hput hK
          simp only at hput hK
          rcases res with (⟨_ | _ | ⟨⟨_ | _ | k | _, cc, _ | _⟩⟩ | _ | _ | _⟩ | _ | _)
          case c.ptr.obj.nil =>
            cases cc with
            | succ cc => exact hput.elim
            | zero =>
              simp only at hput hK
              by_cases hk0 : k = MADE ∧ row.all C.data = true
              · rw [if_pos hk0] at hput hK
                obtain ⟨rfl, hdat⟩ := hk0
                simp only [Rd.run] at hput hK
                cases hk : σ.kind (100000 + d) with
                | some kd => rw [hk] at hput; exact hput.elim
                | none =>
                  cases hm : σ.mp (100000 + d) with
                  | some m => rw [hk, hm] at hput; exact hput.elim
                  | none =>
                    rw [hk, hm] at hput hK
                    simp only at hput hK
                    obtain ⟨_, h2, _⟩ := put_ok hput
                    obtain ⟨hn, e1, _⟩ := h2 d hd
                    obtain ⟨c2, mv2, b2, t2, rp2, _⟩ := made d hd hn hk hm _ rfl
                    obtain ⟨q1, q2⟩ := md1 row rfl
                    obtain ⟨cs, el, w1, w2, w3, w4, w5⟩ := hco.objs MADE (.box row.length) (by show (entrySt [] out).kind MADE = _; simp only [St.kind, entrySt, q1])
                    have hrow := hnfo _ q2
                    simp only [List.all_eq_true] at hdat
                    have hor : ObjRep w' (retGh w.heap.size am (fun k => match σ1.kind k with | some (.box n) => n | _ => 0) (.new d) (100000 + d) true g1 gl gh) (σ2.upd (.box (100000 + d) row)) (100000 + d) (.box row.length) := by
                      refine ⟨cs, el, by rw [b2]; exact w1, by rw [b2]; exact t2 _ w2, by rw [b2]; exact w3, by rw [b2]; exact w4, fun c hcn => ?_⟩
                      obtain ⟨u, f1, f2⟩ := w5 c hcn
                      refine ⟨u, by rw [b2]; exact f1, ?_⟩
                      have e2 : (σ2.upd (.box (100000 + d) row)).cell (100000 + d) c = row[c] := by simp [Sg.upd, List.getD, hcn]
                      have e3 : (entrySt [] out).sg.cell MADE c = row[c] := by
                        show (entrySt [] out).cell MADE c = _
                        simp only [St.cell, entrySt, q1]
                        simp [List.getD, hcn]
                      rw [e2]
                      rw [e3] at f2
                      have hdc := hdat row[c] (List.getElem_mem hcn)
                      have hnc : cl = true ∨ row[c].noFz = true := hrow.imp id fun h => by
                        simp only [AR.noFz, List.all_eq_true] at h
                        exact h _ (List.getElem_mem hcn)
                      generalize row[c] = z at f2 hdc hnc
                      cases z with
                      | t y => cases f2 with | t f2 => exact .t (rp2 c y u (hnc.imp id fun h => h) f2)
                      | _ => cases hdc
                    refine hK _ w' _ ?_ mv2 (by simpa [Act.put] using hs) rfl
                    rw [e1]
                    have e3 : us ++ vs ++ [Upd.box (100000 + d) row] ++ [Upd.slot d (.c (.ptr ⟨.obj (100000 + d), 0, []⟩))] = (us ++ vs) ++ ([Upd.box (100000 + d) row] ++ [Upd.slot d (.c (.ptr ⟨.obj (100000 + d), 0, []⟩))]) := by simp
                    rw [e3, hupd]
                    show Core E ((σ2.upd (.box (100000 + d) row)).upd (.slot d _)) _ w' _
                    refine (c2.addBox hor (fun x hx => by
                      have := hdat x hx
                      cases x with
                      | t y => rfl
                      | _ => cases this)).put (by show σ2.isnew d = false; rw [hn2]; exact hn) (.c (.ptr (fun h => absurd rfl h) (fun _ => PRep.path_nil.2 ⟨_, rfl, ?_⟩) ?_)) (fun r hr => ?_) rfl (.inl (by rw [hs]; exact dst_lt hN hd))
                    · cases hres with
                      | c hres => cases hres with
                        | ptr _ h0 _ =>
                          obtain ⟨k', q3, q4⟩ := PRep.path_nil.1 (h0 rfl)
                          cases q3
                          rw [q4, b2]
                    · cases hres with | c hres => cases hres with | ptr _ _ h1 => exact h1
                    · simp only [SV.roots, C.roots, List.mem_singleton] at hr
                      subst hr
                      exact .inr (.inl (by simp [Sg.upd]))
              · rw [if_neg hk0] at hput; exact hput.elim
          all_goals first | exact hput.elim | (cases cc <;> exact hput.elim)
end
end Vx

namespace Vx
open Go Classical
set_option linter.unusedSimpArgs false
set_option linter.unusedVariables false

section
variable {E : Env} {N : Nat} {o : Oper} {σ : Sg}
theorem PG.rep {am : List Nat} {bad : List (Root × Nat)} {x z : C} {c clT : Bool} (h : PG σ am bad x z c) (hx : x.isOwn = false) (hcl : c = false → clT = false) {σ1 : Sg} {tmps : Array Value} {w : World} {g g1 : Gh} (hc : Core E σ tmps w g) (hc1 : Core E σ1 tmps w g1)
    (hk : Keeps w w g g1 σ.dirty σ.dirty σ.ex) (hlim : g1.lim = g.lim) (hpl : ∀ r c t, PlaceIs σ r c t → (r, c) ∉ bad → PlaceIs σ1 r c t) (hbl : ∀ k ∈ am, σ.ex (.obj k)) {a a' : CA} {v : Value} (hr : CRep w g σ.dirty a x v) : CRep w (lendGh am clT g1) noDirt a' z v := by
  have hl : g1.lim ≤ (lendGh am clT g1).lim := Nat.le_refl _
  have hfz : ∀ b, g1.ow b = .frozen → (lendGh am clT g1).ow b = .frozen := fun b h => by simp [lendGh, h]
  cases h with
  | map h =>
    refine h.rep hx (by rw [← hlim]; exact hl) (fun b q hb => hfz b (hk.fz b q hb).1) (fun j k hj => ?_) hr
    · have : (lendGh am clT g1).bl j = g1.bl k := by simp [lendGh, hj]
      rw [this]
      exact hk.bl k (hbl k (List.mem_of_getElem? hj))
  | @view q t y hb hlent hp ht ho =>
    have hp1 := hpl _ _ _ hp hb
    obtain ⟨u, hu⟩ := hc1.deref ht hp1.slot hp1.obj hp1.nret
    have hv : v = u := by
      cases hr with
      | ref hr _ =>
        rw [hr hp.dirty]
        have e : u = g1.hd q := by
          unfold T.isOwn at ho
          split at ho
          · exact hu.own_hd
          · cases ho
        rw [e]
        exact ((hk.ref _ _ hp.ex hp.dirty).2 _).symm
    rw [hv, hcl rfl]
    rw [hcl rfl] at hfz
    refine .t (.fro (hu.freeze (g' := lendGh am false g1) (Nat.le_refl _) (fun b _ h => hfz b h) fun b a'' _ ha h => ?_))
    simp only [lendGh, h]
    have hroot : a''.root = q.root := ha.1
    rw [hroot]
    cases hq : q.root with
    | ret => exact absurd hq hp.nret
    | obj k =>
      simp only
      rw [hq] at hlent
      simp only [lentR] at hlent
      cases hi : idxK k 0 am with
      | none => simp
      | some j => rw [hi] at hlent; cases hlent
    | slot n => simp
    | new n => simp
theorem PGA.rep {am : List Nat} {mv : List (Nat × CA)} {clT : Bool} {σ1 : Sg} {a : Act} {w : World} {g g1 : Gh} (hc : Core E σ a.tmps w g) (hc1 : Core E σ1 a.tmps w g1) (hl : LIM ≤ g.lim) (hk : Keeps w w g g1 σ.dirty σ.dirty σ.ex) (hlim : g1.lim = g.lim)
    (hpl : ∀ r c t, PlaceIs σ r c t → (r, c) ∉ badOf mv → PlaceIs σ1 r c t) (hbl : ∀ k ∈ am, σ.ex (.obj k)) : ∀ {i : Nat} {l : List Operand} {fa : List SV} {cl : Bool} {L : List Gv}, PGA E σ am mv i l fa cl L → (∀ x ∈ l, okOpd x = true) → (cl = false → clT = false) → (∀ x ∈ L, Rep w g1 ⟨.ret, x.j, []⟩ x.y (g.hd x.a)) →
      ∀ (n : Nat) x z, l[n]? = some x → fa[n]? = some z → SVRep w (lendGh am clT g1) noDirt (.slot (i + n)) 0 z (a.eval x) := by
  intro i l fa cl L h
  induction h with
  | nil => intro _ _ _ n x z hx; simp at hx
  | @mv i x l fa cl L v hx hj hm hv h ih =>
    intro ho hcl hrp n y z hy hz
    cases n with
    | zero =>
      simp only [List.getElem?_cons_zero, Option.some.injEq] at hy hz
      subst hy hz
      have h1 := hx a w g hc hl (ho _ (by simp))
      generalize a.eval x = u at h1
      cases h1 with
      | c h1 =>
        cases h1 with
        | ref h1 _ =>
          have hu := h1 hv.pl.dirty
          rw [hu]
          refine .c (.t ?_)
          have h2 := hrp v (by simp)
          rw [hj] at h2
          refine Rep.map (w' := w) (g' := lendGh am clT g1) (fun a' => ⟨.slot (i + 0), 0, a'.path⟩) h2 (Nat.le_refl _) (fun _ _ _ => rfl) (fun b _ hb => ⟨by simp [lendGh, hb], rfl⟩) (fun b a' _ ha hb => ⟨?_, rfl⟩) (fun a' ha => ?_)
          · simp only [lendGh, hb, ha.1, ha.2.1, Nat.add_zero]
          · simp only [lendGh, Nat.add_zero]
            congr 1
            obtain ⟨q1, q2, _⟩ := ha
            cases a'
            simp_all
    | succ n =>
      have := ih (fun x hx => ho x (by simp [hx])) hcl (fun x hx => hrp x (by simp [hx])) n y z (by simpa using hy) (by simpa using hz)
      rw [show i + (n + 1) = i + 1 + n by omega]
      exact this
  | @c i x y z l fa c1 c2 L hx hy h1 h ih =>
    intro ho hcl hrp n x' z' hx' hz'
    cases n with
    | zero =>
      simp only [List.getElem?_cons_zero, Option.some.injEq] at hx' hz'
      subst hx' hz'
      have h2 := hx a w g hc hl (ho _ (by simp))
      generalize a.eval x = u at h2
      cases h2 with
      | c h2 => exact .c (h1.rep hy (fun e => hcl (by simp [e])) hc hc1 hk hlim hpl hbl h2)
    | succ n =>
      have := ih (fun x hx => ho x (by simp [hx])) (fun e => hcl (by simp [e])) hrp n x' z' (by simpa using hx') (by simpa using hz')
      rw [show i + (n + 1) = i + 1 + n by omega]
      exact this
  | @agg i x row zs l fa c1 c2 L hx hy h1 h ih =>
    intro ho hcl hrp n x' z' hx' hz'
    cases n with
    | zero =>
      simp only [List.getElem?_cons_zero, Option.some.injEq] at hx' hz'
      subst hx' hz'
      have h2 := hx a w g hc hl (ho _ (by simp))
      generalize a.eval x = u at h2
      cases h2 with
      | agg vs h2 =>
        have key : ∀ {row zs : List C} {c1 : Bool}, PGL σ am (badOf mv) row zs c1 → (c1 = false → clT = false) → zs.length = row.length ∧ ∀ (j : Nat) y z, row[j]? = some y → zs[j]? = some z → ∃ c, PG σ am (badOf mv) y z c ∧ (c = false → clT = false) := by
          intro row zs c1 h
          induction h with
          | nil => intro _; exact ⟨rfl, fun j y z h => by simp at h⟩
          | cons h t ih =>
            intro hc
            obtain ⟨i1, i2⟩ := ih fun e => hc (by simp [e])
            refine ⟨by simp [i1], fun j y z hy hz => ?_⟩
            cases j with
            | zero =>
              simp only [List.getElem?_cons_zero, Option.some.injEq] at hy hz
              subst hy hz
              exact ⟨_, h, fun e => hc (by simp [e])⟩
            | succ j => exact i2 j y z (by simpa using hy) (by simpa using hz)
        obtain ⟨k1, k2⟩ := key h1 fun e => hcl (by simp [e])
        rw [← k1]
        refine .agg vs fun j z hj => ?_
        have hlt := lt_of_getElem? hj
        have hlt' : j < row.length := by omega
        obtain ⟨c, q1, q2⟩ := k2 j row[j] z (List.getElem?_eq_getElem hlt') hj
        exact q1.rep (hy _ (List.getElem_mem hlt')) q2 hc hc1 hk hlim hpl hbl (h2 j row[j] (List.getElem?_eq_getElem hlt'))
    | succ n =>
      have := ih (fun x hx => ho x (by simp [hx])) (fun e => hcl (by simp [e])) hrp n x' z' (by simpa using hx') (by simpa using hz')
      rw [show i + (n + 1) = i + 1 + n by omega]
      exact this
theorem gv_cell {am : List Nat} : ∀ (L : List Gv) (σ : Sg), (∀ x ∈ L, lentR am x.a.root = false) → ∀ k ∈ am, ∀ c, (σ.upds (L.map Gv.upd)).cell k c = σ.cell k c
  | [], σ, _, k, _, c => rfl
  | x :: L, σ, h, k, hk, c => by
    rw [List.map_cons, upds_cons, gv_cell L _ (fun y hy => h y (by simp [hy])) k hk c]
    show (σ.setP x.a.root x.a.c _).cell k c = _
    have hx := h x (by simp)
    cases hr : x.a.root with
    | obj j =>
      have hne : k ≠ j := by
        rintro rfl
        rw [hr] at hx
        obtain ⟨i, hi⟩ := idxK_mem (n := 0) hk
        simp [lentR, hi] at hx
      simp [Sg.setP, hne]
    | _ => rfl
theorem keys_places {us : List Upd} : ∀ {L : List Gv}, distinct (keysOf (L.map Gv.upd ++ us)) = true → L.Pairwise fun x y => ¬ (y.a.root = x.a.root ∧ y.a.c = x.a.c)
  | [], _ => .nil
  | x :: L, h => by
    rw [distinct_iff] at h
    simp only [List.map_cons, List.cons_append, keysOf, Gv.upd, Upd.key, List.singleton_append, List.nodup_cons] at h
    refine List.pairwise_cons.2 ⟨fun y hy e => h.1 ?_, keys_places ((distinct_iff _).2 h.2)⟩
    refine keysOf_mem (u := y.upd) (by simp only [List.mem_append, List.mem_map]; exact .inl ⟨y, hy, rfl⟩) ?_
    simp only [Gv.upd, Upd.key, e.1, e.2]
    simp
theorem putG_keys {res : SV} {md : Option AR} {us : List Upd} {ok : Prop} (h : ((putG o res md us ok).run σ).ok) : ok ∧ distinct (keysOf us) = true := by
  unfold putG at h
  have one : ∀ {x : SV} {us : List Upd}, ((Vx.put o x us ok).run σ).ok → ok ∧ distinct (keysOf us) = true := fun h => ⟨(put_ok h).1, keys_left h⟩
  split at h
  · split at h
    · exact one h
    · exact h.elim
  · split at h
    · split at h
      · split at h
        · simp only [Rd.run] at h
          split at h
          · obtain ⟨h1, h2⟩ := one h
            exact ⟨h1, distinct_left h2⟩
          · exact h.elim
        · exact h.elim
      · exact h.elim
    · exact h.elim
  · split at h
    · split at h
      · split at h
        · simp only [Rd.run] at h
          split at h
          · obtain ⟨h1, h2⟩ := one h
            exact ⟨h1, distinct_left h2⟩
          · exact h.elim
        · exact h.elim
      · exact h.elim
    · exact h.elim
  · exact h.elim
theorem callG_ok (hN : okOper N o = true) {f : Nat} {xs : List Operand} {caps : List C} {an : Ans} (hopd : ∀ x ∈ xs, okOpd x = true)
    (hcaps : ∀ (a : Act) (w : World) (g : Gh), Core E σ a.tmps w g → ∃ cv : Nat → Value, (∀ (j : Nat) x, caps[j]? = some x → x.isOwn = false ∧ ∃ a', CRep w g σ.dirty a' x (cv j)) ∧
      (∀ u : Array Value, u = (xs.map a.eval).toArray ++ ((List.range caps.length).map cv).toArray → (∀ u w, (callFunc f u).run E.P w = .ok (.enter f u) w) → (execOp a.eval o).run E.P w = .ok (.enter f u) w))
    (h : ((stepCallG (Returns E) o f xs caps an).run σ).ok) : OpOK E N o σ ((stepCallG (Returns E) o f xs caps an).run σ).upd := by
  unfold stepCallG at h ⊢
  by_cases h0 : (nodup an.am && decide (an.am.length ≤ 1000)) = true
  · rw [if_pos h0] at h ⊢
    simp only [Bool.and_eq_true, decide_eq_true_eq] at h0
    have hnd := (nodup_iff _).1 h0.1
    obtain ⟨fa, cl, L, e1, hP⟩ := passGA_ok (E := E) h
    rw [e1] at h ⊢
    cases hcs : mapCs an.am caps with
    | none => rw [hcs] at h; exact h.elim
    | some cs =>
      rw [hcs] at h
      simp only at h ⊢
      obtain ⟨m1, m2⟩ := mapCs_ok caps hcs
      obtain ⟨rs, e2, hlent⟩ := lendG_ok h
      rw [e2] at h ⊢
      obtain ⟨vs, md, e3, hback⟩ := backG_ok h
      rw [e3] at h ⊢
      obtain ⟨⟨hret, hcl⟩, hdi⟩ := putG_keys h
      obtain ⟨s1, s2, s3, s4⟩ := hP.spec
      have hdl := distinct_left hdi
      have hpw : L.Pairwise fun x y => ¬ (y.a.root = x.a.root ∧ y.a.c = x.a.c) ∧ x.j ≠ y.j := by
        have q := keys_places hdi
        clear hP s2 s4 hdi hdl h e1 e2 e3
        induction L with
        | nil => exact .nil
        | cons x L ih =>
          have a1 := List.pairwise_cons.1 q
          have a2 := List.pairwise_cons.1 s3
          exact List.pairwise_cons.2 ⟨fun y hy => ⟨a1.1 y hy, a2.1 y hy⟩, ih a2.2 a1.2⟩
      intro a w g hc hs hl K Q hK
      obtain ⟨g1, c1, mv1, k1, rp, _, sm, pls⟩ := gvAll L σ g (fun x hx => (s2 x hx).1) hpw hc
      have hbl : ∀ k ∈ an.am, σ.ex (.obj k) := by
        intro k hk
        obtain ⟨j, hj⟩ := List.getElem?_of_mem hk
        rcases hlent.at.2 j k hj with ⟨_, _, _, q, _⟩ | ⟨_, _, _, q⟩
        · exact .inr (.inl (by rw [q]; simp))
        · exact .inr (.inr (by rw [q]; simp))
      have hrep := hP.rep (clT := cl) hc c1 hl k1 mv1.lim (fun r c t hp hb => pls r c t hp fun x hx e => hb (by rw [e.1, e.2]; exact (s2 x hx).2.2)) hbl hopd (fun e => e) rp
      have lent1 : LentG (σ.upds (L.map Gv.upd)) an.am an.am rs := hlent.other sm.kind sm.mp fun k hk c => gv_cell L σ (fun x hx => (s2 x hx).1.lent) k hk c
      have back1 : ∀ {ks : List Nat} {out : List AR} {vs : List Upd} {md : Option AR}, BackG σ an.am ks out vs md → BackG (σ.upds (L.map Gv.upd)) an.am ks out vs md := by
        intro ks out vs md h
        induction h with
        | nil => exact .nil
        | mbox => exact .mbox
        | mmap => exact .mmap
        | box hk hu hn t ih => exact .box (by rw [sm.kind]; exact hk) hu hn ih
        | map hm t ih => exact .map (by rw [sm.mp]; exact hm) ih
      obtain ⟨cv, hcv, hexec⟩ := hcaps a w g hc
      have hcall := hret.1
      refine callG_gen hN hret hcl hnd h0.2 rfl sm c1 mv1 hs hl lent1 (back1 hback) (vals := (xs.map a.eval).toArray ++ ((List.range caps.length).map cv).toArray) (by simp [s1, m1]) (fun n z hn => ?_) (fun z hz => ?_) h (hexec _ rfl hcall) hK
      · by_cases hlt : n < fa.length
        · rw [List.getElem?_append_left hlt] at hn
          have hlt' : n < xs.length := by omega
          have := hrep n xs[n] z (List.getElem?_eq_getElem hlt') hn
          rw [Nat.zero_add] at this
          have e4 : ((xs.map a.eval).toArray ++ ((List.range caps.length).map cv).toArray).getD n undef = a.eval xs[n] := by
            simp only [Array.getD_eq_getD_getElem?]
            rw [Array.getElem?_append_left (by simpa using hlt')]
            simp [hlt']
          rw [e4]
          exact this
        · rw [List.getElem?_append_right (by omega)] at hn
          simp only [List.getElem?_map, Option.map_eq_some_iff] at hn
          obtain ⟨y, hy, rfl⟩ := hn
          have hj := lt_of_getElem? hy
          have hjc : n - fa.length < caps.length := by omega
          have e4 : ((xs.map a.eval).toArray ++ ((List.range caps.length).map cv).toArray).getD n undef = cv (n - fa.length) := by
            simp only [Array.getD_eq_getD_getElem?]
            rw [Array.getElem?_append_right (by simp; omega)]
            simp [← s1, hjc]
          rw [e4]
          obtain ⟨o1, a', o2⟩ := hcv _ _ (List.getElem?_eq_getElem hjc)
          have hm := m2 _ _ _ (List.getElem?_eq_getElem hjc) hy
          exact .c (PG.rep (bad := badOf an.mv) (.map hm) o1 (fun e => by cases e) hc c1 k1 mv1.lim (fun r c t hp hb => pls r c t hp fun x hx e => hb (by rw [e.1, e.2]; exact (s2 x hx).2.2)) hbl o2)
      · rcases List.mem_append.1 hz with e | e
        · exact s4 z e
        · obtain ⟨y, hy, rfl⟩ := List.mem_map.1 e
          obtain ⟨j, hj⟩ := List.getElem?_of_mem hy
          have hlt := lt_of_getElem? hj
          have hlt' : j < caps.length := by omega
          exact ⟨rfl, (m2 j _ y (List.getElem?_eq_getElem hlt') hj).roots⟩
  · rw [if_neg h0] at h; exact h.elim
theorem call_ok (hN : okOper N o = true) {f : Nat} {xs : Array Operand} {ats : Array TypeId} {an : Ans} (ho : o.op = .call { callee := .value (.func f), args := xs, argTypes := ats })
    (h : ((stepCall (Returns E) o f xs.toList an).run σ).ok) : OpOK E N o σ ((stepCall (Returns E) o f xs.toList an).run σ).upd := by
  unfold stepCall at h ⊢
  split at h
  · exact call0_ok hN ho h
  · exact callM_ok hN ho h
  · refine callG_ok hN (fun x hx => okOper_opd hN (by
      rw [ho]
      simp only [Op.operands, Call.operands]
      simp at hx
      simp [hx])) (fun a w g hc => ⟨fun _ => undef, by simp, fun u hu hf => ?_⟩) h
    simp only [execOp, ho, resolve, Act.eval, Deferred.ofValue, Sem.run_bind, Sem.run_pure, Result.andThen_ok, invoke]
    have e : xs.map a.eval = u := by rw [hu]; apply Array.toList_inj.1; simp
    simpa [e] using hf u w
/-- A call of a closure. -/
theorem callv_ok (hN : okOper N o = true) {n : Nat} {xs : Array Operand} {ats : Array TypeId} {an : Ans} (ho : o.op = .call { callee := .value (.tmp n), args := xs, argTypes := ats })
    (h : ((stepCallV (Returns E) o n xs.toList an).run σ).ok) : OpOK E N o σ ((stepCallV (Returns E) o n xs.toList an).run σ).upd := by
  unfold stepCallV at h ⊢
  simp only [Rd.run] at h ⊢
  split at h
  · rename_i f caps hslot
    try simp only [hslot]
    split at h
    · exact callv0_ok hN ho hslot h
    · refine callG_ok hN (fun x hx => okOper_opd hN (by
        rw [ho]
        simp only [Op.operands, Call.operands]
        simp at hx
        simp [hx])) (fun a w g hc => ?_) h
      have hv := hc.slots n
      rw [hslot] at hv
      have hval : a.eval (.tmp n) = a.tmps.getD n undef := rfl
      generalize a.tmps.getD n undef = v at hv hval
      cases hv with
      | c hv =>
        cases hv with
        | clo vs hn hcap =>
          refine ⟨vs, fun j x hj => ⟨hn x (List.mem_of_getElem? hj), _, hcap j x hj⟩, fun u hu hf => ?_⟩
          simp only [execOp, ho, resolve, hval, Deferred.ofValue, Sem.run_bind, Sem.run_pure, Result.andThen_ok, invoke]
          have e : xs.map a.eval ++ ((List.range caps.length).map vs).toArray = u := by rw [hu]; congr 1; apply Array.toList_inj.1; simp
          simpa [e] using hf u w
  · exact h.elim
end
end Vx

namespace Vx
open Go Classical
set_option linter.unusedSimpArgs false
set_option linter.unusedVariables false

/-! ## Maps -/
def KK.desc : KK → TypeDesc
  | .str => .string
  | .int k => .int k
/-- The value of a key. -/
def keyV : T → Value
  | .str s => .string s
  | .int k n => .int k n
  | _ => .nilFunc
theorem KK.rep {kk : KK} {k : T} (h : kk.ok k = true) {w : World} {g : Gh} {v : Value} (hr : FRep w g k v) : v = keyV k := by
  cases kk <;> cases k <;> first | (cases hr; rfl) | (cases h)
theorem keyEq_sameNow {kk : KK} {a b : T} (ha : kk.ok a = true) (hb : kk.ok b = true) : Instr.sameNow kk.desc (keyV a) (keyV b) = some (keyEq a b) := by
  cases kk <;> cases a <;> cases b <;> first | (cases ha; done) | (cases hb; done) | skip
  · rename_i s u
    simp only [KK.desc, keyV, Instr.sameNow, keyEq, Option.some.injEq]
    by_cases e : s = u
    · rw [(MapKept.bytes_beq s u).2 e, decide_eq_true e]
    · rw [decide_eq_false e]
      cases hb : s == u with
      | false => rfl
      | true => exact absurd ((MapKept.bytes_beq s u).1 hb) e
  · rename_i k j n i m
    simp only [KK.ok, decide_eq_true_eq] at ha hb
    subst ha hb
    simp only [KK.desc, keyV, Instr.sameNow, keyEq, if_true, decide_true, Bool.true_and]
    congr 1
theorem keyEq_eq {kk : KK} {a b : T} (ha : kk.ok a = true) (hb : kk.ok b = true) (h : keyEq a b = true) : a = b := by
  cases kk <;> cases a <;> cases b <;> first | (cases ha; done) | (cases hb; done) | skip
  · simp only [keyEq, decide_eq_true_eq] at h; rw [h]
  · simp only [keyEq, Bool.and_eq_true, decide_eq_true_eq] at h; rw [h.1, h.2]
def mapIx : List (T × T) → T → Option Nat
  | [], _ => none
  | e :: l, k => if keyEq k e.1 then some 0 else (mapIx l k).map (· + 1)
theorem mapIx_lt : ∀ {es : List (T × T)} {k : T} {j : Nat}, mapIx es k = some j → ∃ e, es[j]? = some e ∧ keyEq k e.1 = true
  | [], k, j, h => by cases h
  | e :: l, k, j, h => by
    simp only [mapIx] at h
    split at h
    · rename_i q; cases h; exact ⟨e, rfl, q⟩
    · simp only [Option.map_eq_some_iff] at h
      obtain ⟨i, h, rfl⟩ := h
      obtain ⟨e', h1, h2⟩ := mapIx_lt h
      exact ⟨e', by simpa using h1, h2⟩
theorem mapFind_ix : ∀ (es : List (T × T)) (k : T), mapFind es k = (mapIx es k).bind fun j => (es[j]?).map (·.2)
  | [], k => rfl
  | e :: l, k => by
    simp only [mapFind, mapIx]
    split
    · rfl
    · rw [mapFind_ix l k]
      cases mapIx l k <;> simp
theorem mapSet_ix : ∀ (es : List (T × T)) (k v : T), mapSet es k v = match mapIx es k with | some j => es.modify j (fun e => (e.1, v)) | none => es ++ [(k, v)]
  | [], k, v => rfl
  | e :: l, k, v => by
    simp only [mapSet, mapIx]
    split
    · rfl
    · rw [mapSet_ix l k v]
      cases mapIx l k <;> simp
theorem findNow_spec {kk : KK} {k : T} (hk : kk.ok k = true) {w : World} {g : Gh} : ∀ (l : List MapEntry) (es : List (T × T)) (i : Nat), l.length = es.length →
    (∀ (j : Nat) (e : T × T) (x : MapEntry), es[j]? = some e → l[j]? = some x → FRep w g e.1 x.key) → (∀ e ∈ es, kk.ok e.1 = true) →
    ∃ r, Instr.findNow kk.desc (keyV k) l i = some r ∧ match mapIx es k with | none => r = none | some j => ∃ x, l[j]? = some x ∧ r = some (i + j, x.val)
  | [], [], i, _, _, _ => ⟨none, rfl, rfl⟩
  | [], e :: es, i, h, _, _ => by simp at h
  | x :: l, [], i, h, _, _ => by simp at h
  | x :: l, e :: es, i, hl, hr, ho => by
    have h0 := hr 0 e x rfl rfl
    have hv := (KK.rep (ho e (by simp)) h0)
    obtain ⟨r, h1, h2⟩ := findNow_spec hk l es (i + 1) (by simpa using hl) (fun j e' x' a b => hr (j + 1) e' x' (by simpa using a) (by simpa using b)) fun e' he => ho e' (by simp [he])
    simp only [Instr.findNow, hv, keyEq_sameNow hk (ho e (by simp)), mapIx]
    cases hq : keyEq k e.1 with
    | true => exact ⟨_, rfl, x, rfl, rfl⟩
    | false =>
      refine ⟨r, h1, ?_⟩
      simp only [Bool.false_eq_true, if_false]
      cases hm : mapIx es k with
      | none => rw [hm] at h2; simpa using h2
      | some j =>
        rw [hm] at h2
        obtain ⟨y, q1, q2⟩ := h2
        exact ⟨y, by simpa using q1, by rw [q2, show i + 1 + j = i + (j + 1) by omega]⟩
theorem mapOK_mem {kk : KK} {ik : IntKind} {es : List (T × T)} (h : mapOK kk ik es = true) : ∀ e ∈ es, kk.ok e.1 = true ∧ ∃ n, e.2 = .int ik n := by
  intro e he
  simp only [mapOK, List.all_eq_true, Bool.and_eq_true] at h
  obtain ⟨h1, h2⟩ := h e he
  refine ⟨h1, ?_⟩
  split at h2
  · rename_i k n q
    simp only [decide_eq_true_eq] at h2
    subst h2
    exact ⟨n, q⟩
  · cases h2
structure MapTy (P : Program) (t : TypeId) (kk : KK) (ik : IntKind) : Prop where
  ex : ∃ kt et, P.underlying t = some (.map kt et) ∧ P.underlying kt = some kk.desc ∧ ∀ w, (zeroValue et).run P w = .ok (.int ik 0) w
theorem mapT_ok {P : Program} {t : TypeId} {kk : KK} {ik : IntKind} (h : mapT P t = some (kk, ik)) : MapTy P t kk ik := by
  unfold mapT at h
  split at h
  · rename_i k e hu
    split at h
    · rename_i h1 h2
      cases h
      exact ⟨k, e, hu, h1, fun w => by simp [zeroValue, typeInfo, h2]⟩
    · rename_i h1 h2
      cases h
      exact ⟨k, e, hu, h1, fun w => by simp [zeroValue, typeInfo, h2]⟩
    · cases h
  · cases h
theorem run_checkKey' {P : Program} {w : World} {kt : TypeId} {kk : KK} {k : T} (hd : P.underlying kt = some kk.desc) (hk : kk.ok k = true) (e : Bool) : (Instr.checkKey e 10000 kt (keyV k)).run P w = .ok () w := by
  show (Instr.checkKey e (9999 + 1) kt (keyV k)).run P w = _
  cases kk <;> cases k <;> first | (cases hk; done) | (unfold Instr.checkKey; simp [underlying, hd, KK.desc, keyV])
theorem mapHas_ix (es : List (T × T)) (k : T) : mapHas es k = (mapIx es k).isSome := by
  unfold mapHas
  rw [mapFind_ix]
  cases h : mapIx es k with
  | none => rfl
  | some j =>
    obtain ⟨e, h1, _⟩ := mapIx_lt h
    simp [h1]
theorem run_lookup {P : Program} {t : TypeId} {kk : KK} {ik : IntKind} (ht : MapTy P t kk ik) {w : World} {g : Gh} {b ck : Nat} {l : List MapEntry} {es : List (T × T)} (hh : w.heap[b]? = some (.map l.toArray ck)) (hl : l.length = es.length)
    (hr : ∀ (i : Nat) (e : T × T) (x : MapEntry), es[i]? = some e → l[i]? = some x → FRep w g e.1 x.key ∧ FRep w g e.2 x.val) (hok : mapOK kk ik es = true) {k : T} (hk : kk.ok k = true) (ok : Bool) :
    (Instr.lookup t (.map (some b)) (keyV k) ok).run P w = .ok (if ok then .tuple #[.int ik (mapGet es k), .bool (mapHas es k)] else .int ik (mapGet es k)) w := by
  obtain ⟨kt, et, h1, h2, h3⟩ := ht.ex
  have hm := mapOK_mem hok
  obtain ⟨r, f1, f2⟩ := findNow_spec hk l es 0 hl (fun j e x a b => (hr j e x a b).1) fun e he => (hm e he).1
  have hf : (Instr.findKey kt (keyV k) l).run P w = .ok r w := by simp [Instr.findKey, underlying, h2, f1]
  cases hi : mapIx es k with
  | none =>
    rw [hi] at f2
    subst f2
    have hg : mapGet es k = 0 := by unfold mapGet; rw [mapFind_ix, hi]; rfl
    have hs : mapHas es k = false := by rw [mapHas_ix, hi]; rfl
    rw [hg, hs]
    cases ok <;> simp [Instr.lookup, underlying, h1, MapKept.run_getObj_map hh, run_checkKey' h2 hk, hf, h3]
  | some j =>
    rw [hi] at f2
    obtain ⟨x, q1, rfl⟩ := f2
    obtain ⟨e, q2, _⟩ := mapIx_lt hi
    obtain ⟨n, hn⟩ := (hm e (List.mem_of_getElem? q2)).2
    have hv := (hr j e x q2 q1).2
    rw [hn] at hv
    have hx : x.val = .int ik n := by generalize x.val = u at hv; cases hv; rfl
    have hg : mapGet es k = n := by unfold mapGet; rw [mapFind_ix, hi]; simp [q2, hn]
    have hs : mapHas es k = true := by rw [mapHas_ix, hi]; rfl
    rw [hg, hs]
    cases ok <;> simp [Instr.lookup, underlying, h1, MapKept.run_getObj_map hh, run_checkKey' h2 hk, hf, hx]
section
variable {E : Env} {N : Nat} {o : Oper} {σ : Sg}
theorem slot_map {a : Act} {w : World} {g : Gh} {i : Nat} {v : Value} {r : Root} (h : SVRep w g σ.dirty r 0 (.c (.mp i)) v) : v = .map (some (g.bl i).1) := by
  cases h with | c h => cases h with | mp h => exact h
theorem ok_lookup (hN : okOper N o = true) {t : TypeId} {m k : Operand} {ok : Bool} (ho : o.op = .lookup t m k ok) (h : ((astep E.P o).run σ).ok) : OpOK E N o σ ((astep E.P o).run σ).upd := by
  have hopm : okOpd m = true := okOper_opd hN (by rw [ho]; simp [Op.operands])
  have hopk : okOpd k = true := okOper_opd hN (by rw [ho]; simp [Op.operands])
  simp only [astep, ho] at h ⊢
  unfold stepLookup at h ⊢
  cases ht : mapT E.P t with
  | none => rw [ht] at h; exact h.elim
  | some p =>
    obtain ⟨kk, ik⟩ := p
    rw [ht] at h
    simp only at h ⊢
    obtain ⟨sv, e1, _, r1⟩ := rdS_ok h
    rw [e1] at h ⊢
    obtain ⟨kt, e2, r2⟩ := rdT_ok h
    rw [e2] at h ⊢
    rcases sv with (⟨_ | _ | _ | _ | _ | i⟩ | _ | _)
    case c.mp =>
      simp only [Rd.run] at h ⊢
      cases hm : σ.mp i with
      | none => rw [hm] at h; exact h.elim
      | some es =>
        rw [hm] at h
        simp only at h ⊢
        by_cases hc0 : (mapOK kk ik es && kk.ok kt) = true
        · rw [if_pos hc0] at h ⊢
          simp only [Bool.and_eq_true] at hc0
          refine OpOK.pure hN h rfl (fun a w g hc hl => ?_) (by cases ok <;> rfl)
          have hv := slot_map (a := a) (r1 E a w g hc hl hopm .ret)
          obtain ⟨rk, hk⟩ := r2 E a w g hc hl hopk
          have hkv : a.eval k = keyV kt := KK.rep hc0.2 (hk.isFro fun sz xs e => by subst e; revert hc0; cases kk <;> simp [KK.ok])
          obtain ⟨l, ck, m1, m2, m3, m4⟩ := hc.maps i es hm
          refine ⟨if ok then .tuple #[.int ik (mapGet es kt), .bool (mapHas es kt)] else .int ik (mapGet es kt), ?_, fun r => ?_, ?_⟩
          · simp only [execOp, ho, hv, hkv, Sem.run_bind, run_lookup (mapT_ok ht) m1 m3 m4 hc0.1 hc0.2 ok]
            rfl
          · cases ok with
            | false => exact .c (.t (.fro .int))
            | true =>
              have := SVRep.tup (w := w) (g := g) (d := σ.dirty) (r := r) (n := 0) (l := [.c (.t (.int ik (mapGet es kt))), .c (.t (.bool (mapHas es kt)))]) (fun j => if j = 0 then .int ik (mapGet es kt) else .bool (mapHas es kt)) (fun j x hj => by
                match j, hj with
                | 0, hj => cases hj; exact .c (.t (.fro .int))
                | 1, hj => cases hj; exact .c (.t (.fro .bool)))
              exact this
          · cases ok <;> simp [SV.roots, SV.rootsL, C.roots]
        · rw [if_neg hc0] at h; exact h.elim
    all_goals exact h.elim
theorem ok_makeMap (hN : okOper N o = true) {t : TypeId} {r : Option Operand} (ho : o.op = .makeMap t r) (h : ((astep E.P o).run σ).ok) : OpOK E N o σ ((astep E.P o).run σ).upd := by
  cases r with
  | some x => simp only [astep, ho] at h; exact h.elim
  | none =>
    simp only [astep, ho] at h ⊢
    cases hd : o.dst with
    | none => rw [hd] at h; exact h.elim
    | some d =>
      rw [hd] at h
      simp only [Rd.run] at h ⊢
      cases hk : σ.kind (100000 + d) with
      | some kd => rw [hk] at h; exact h.elim
      | none =>
        cases hm : σ.mp (100000 + d) with
        | some m => rw [hk, hm] at h; exact h.elim
        | none =>
          rw [hk, hm] at h
          simp only at h ⊢
          obtain ⟨_, h2, _⟩ := put_ok h
          obtain ⟨hn, e, _⟩ := h2 d hd
          rw [e]
          intro a w g hc hs hl K Q hK
          have hex : (execOp a.eval o).run E.P w = .ok (.value (.map (some w.heap.size))) (w.alloc (.map #[] 0)) := by simp [execOp, ho, Instr.makeMap]
          unfold Oper.wp
          rw [hex, Oper.upon_value, hd]
          have hex0 : ¬ σ.ex (.obj (100000 + d)) := by simp only [Sg.ex]; rw [hk, hm]; simp
          have hbl : ∀ k', σ.ex (.obj k') → (fun i => if i = 100000 + d then (w.heap.size, 0, 0) else g.bl i) k' = g.bl k' := by
            intro k' h
            simp only
            rw [if_neg]
            rintro rfl
            exact hex0 h
          have hc1 := hc.fresh (ob := .map #[] 0) (tag := .box (100000 + d)) (hd := g.hd) (bl := fun i => if i = 100000 + d then (w.heap.size, 0, 0) else g.bl i) (fun _ _ _ _ => rfl) hbl
          have hmr : MapRep (w.plus (.map #[] 0)) (g.fresh w.heap.size (.box (100000 + d)) g.hd fun i => if i = 100000 + d then (w.heap.size, 0, 0) else g.bl i) (100000 + d) [] :=
            ⟨[], 0, by simp only [Gh.fresh, if_true]; exact plus_new _ _, by simp [Gh.fresh], rfl, fun i e x a1 _ => by simp at a1⟩
          refine hK _ _ (g.fresh w.heap.size (.box (100000 + d)) g.hd fun i => if i = 100000 + d then (w.heap.size, 0, 0) else g.bl i) ?_ (fresh_move (w := w) (ob := .map #[] 0) (fun k hk' => by rw [if_neg (by omega)]) (fun _ _ _ => rfl)) (by simpa [Act.put] using hs) rfl
          show Core E ((σ.upd (.mp (100000 + d) [])).upd (.slot d _)) _ (w.plus (.map #[] 0)) _
          refine (hc1.addMap hmr).put (by exact hn) (.c (.mp ?_)) (fun r hr => ?_) rfl (.inl (by rw [hs]; exact dst_lt hN hd))
          · simp [Gh.fresh]
          · simp only [SV.roots, C.roots, List.mem_singleton] at hr
            subst hr
            exact .inr (.inr (by simp [Sg.upd]))
theorem modify_toArray {α : Type} (l : List α) (j : Nat) (f : α → α) : l.toArray.modify j f = (l.modify j f).toArray := by simp
theorem sameBits_key {kk : KK} {a b : T} (ha : kk.ok a = true) (hb : kk.ok b = true) (h : keyEq a b = true) : Instr.sameBits 10000 (keyV b) (keyV a) = true := by
  have e := keyEq_eq ha hb h
  subst e
  cases kk <;> cases a <;> first | (cases ha; done) | (simp [keyV, Instr.sameBits]; done) | (simp only [keyV, Instr.sameBits]; exact (MapKept.bytes_beq _ _).2 rfl)
theorem run_mapUpdate {P : Program} {t : TypeId} {kk : KK} {ik : IntKind} (ht : MapTy P t kk ik) {w : World} {g : Gh} {b ck : Nat} {l : List MapEntry} {es : List (T × T)} (hh : w.heap[b]? = some (.map l.toArray ck)) (hl : l.length = es.length)
    (hr : ∀ (i : Nat) (e : T × T) (x : MapEntry), es[i]? = some e → l[i]? = some x → FRep w g e.1 x.key ∧ FRep w g e.2 x.val) (hok : mapOK kk ik es = true) {k : T} (hk : kk.ok k = true) (n : Int) :
    ∃ (l' : List MapEntry) (ck' : Nat), (Instr.mapUpdate t (.map (some b)) (keyV k) (.int ik n)).run P w = .ok () { w with heap := w.heap.setIfInBounds b (.map l'.toArray ck') } ∧ l'.length = (mapSet es k (.int ik n)).length ∧
      ∀ (i : Nat) (e : T × T) (x : MapEntry), (mapSet es k (.int ik n))[i]? = some e → l'[i]? = some x → ((∃ e0 x0, es[i]? = some e0 ∧ l[i]? = some x0 ∧ e = e0 ∧ x.key = x0.key ∧ x.val = x0.val) ∨ (x.key = keyV k ∧ e.1 = k ∧ e.2 = .int ik n ∧ x.val = .int ik n)) := by
  obtain ⟨kt, et, h1, h2, h3⟩ := ht.ex
  have hm := mapOK_mem hok
  obtain ⟨r, f1, f2⟩ := findNow_spec hk l es 0 hl (fun j e x a b => (hr j e x a b).1) fun e he => (hm e he).1
  have hf : (Instr.findKey kt (keyV k) l).run P w = .ok r w := by simp [Instr.findKey, underlying, h2, f1]
  rw [mapSet_ix]
  cases hi : mapIx es k with
  | none =>
    rw [hi] at f2
    subst f2
    refine ⟨l ++ [{ key := keyV k, val := .int ik n, born := ck }], ck + 1, ?_, by simp [hl], fun i e x he hx => ?_⟩
    · simp [Instr.mapUpdate, underlying, h1, MapKept.run_getObj_map hh, run_checkKey' h2 hk, hf, MapKept.run_setObj_map _ hh]
    · rcases Nat.lt_or_ge i es.length with q | q
      · rw [List.getElem?_append_left q] at he
        rw [List.getElem?_append_left (by omega)] at hx
        exact .inl ⟨e, x, he, hx, rfl, rfl, rfl⟩
      · rw [List.getElem?_append_right q] at he
        rw [List.getElem?_append_right (by omega)] at hx
        right
        have : i - es.length = 0 := by
          rcases Nat.eq_zero_or_pos (i - es.length) with q2 | q2
          · exact q2
          · rw [List.getElem?_eq_none (by simp; omega)] at he; cases he
        rw [this] at he
        rw [hl, this] at hx
        cases he; cases hx
        exact ⟨rfl, rfl, rfl, rfl⟩
  | some j =>
    rw [hi] at f2
    obtain ⟨x, q1, rfl⟩ := f2
    obtain ⟨e, q2, q3⟩ := mapIx_lt hi
    have hkx := KK.rep (hm e (List.mem_of_getElem? q2)).1 (hr j e x q2 q1).1
    have hsb := sameBits_key hk (hm e (List.mem_of_getElem? q2)).1 q3
    have hke := keyEq_eq hk (hm e (List.mem_of_getElem? q2)).1 q3
    refine ⟨l.modify j fun y => { y with key := keyV k, val := .int ik n }, ck, ?_, by simp [hl], fun i e' x' he hx => ?_⟩
    · have hst : (Instr.keyThatStays x.key (keyV k)).run P w = .ok (keyV k) w := by simp [Instr.keyThatStays, hkx, hsb]
      simp [Instr.mapUpdate, underlying, h1, MapKept.run_getObj_map hh, run_checkKey' h2 hk, hf, q1, hst, MapKept.run_setObj_map _ hh]
    · rw [List.getElem?_modify] at he hx
      by_cases hj : j = i
      · subst hj
        rw [q2] at he
        rw [q1] at hx
        simp only [if_true, Option.map_eq_map, Option.map_some, Option.some.injEq] at he hx
        subst he hx
        right
        exact ⟨rfl, hke.symm, rfl, rfl⟩
      · simp only [hj, if_false] at he hx
        left
        cases he' : es[i]? with
        | none => rw [he'] at he; cases he
        | some e0 =>
          cases hx' : l[i]? with
          | none => rw [hx'] at hx; cases hx
          | some x0 =>
            rw [he'] at he
            rw [hx'] at hx
            simp only [Option.map_eq_map, Option.map_some, Option.some.injEq] at he hx
            subst he hx
            exact ⟨_, _, rfl, rfl, rfl, rfl, rfl⟩
theorem ok_mapUpdate (hN : okOper N o = true) {t : TypeId} {m k v : Operand} (ho : o.op = .mapUpdate t m k v) (h : ((astep E.P o).run σ).ok) : OpOK E N o σ ((astep E.P o).run σ).upd := by
  have hopm : okOpd m = true := okOper_opd hN (by rw [ho]; simp [Op.operands])
  have hopk : okOpd k = true := okOper_opd hN (by rw [ho]; simp [Op.operands])
  have hopv : okOpd v = true := okOper_opd hN (by rw [ho]; simp [Op.operands])
  simp only [astep, ho] at h ⊢
  unfold stepMapUpdate at h ⊢
  cases ht : mapT E.P t with
  | none => rw [ht] at h; exact h.elim
  | some p =>
    obtain ⟨kk, ik⟩ := p
    rw [ht] at h
    simp only at h ⊢
    obtain ⟨sv, e1, _, r1⟩ := rdS_ok h
    rw [e1] at h ⊢
    obtain ⟨kt, e2, r2⟩ := rdT_ok h
    rw [e2] at h ⊢
    obtain ⟨vt, e3, r3⟩ := rdT_ok h
    rw [e3] at h ⊢
    rcases sv with (⟨_ | _ | _ | _ | _ | i⟩ | _ | _)
    case c.mp =>
      simp only [Rd.run] at h ⊢
      cases hm : σ.mp i with
      | none => rw [hm] at h; exact h.elim
      | some es =>
        rw [hm] at h
        simp only at h ⊢
        by_cases hc0 : (mapOK kk ik es && kk.ok kt && mapOK kk ik [(kt, vt)]) = true
        · rw [if_pos hc0] at h ⊢
          simp only [Bool.and_eq_true] at hc0
          obtain ⟨⟨hok, hkk⟩, hvv⟩ := hc0
          obtain ⟨n, hn⟩ := (mapOK_mem hvv (kt, vt) (by simp)).2
          simp only at hn
          subst hn
          refine OpOK.skip hN h fun a w g hc hs hl => ?_
          have hv := slot_map (a := a) (r1 E a w g hc hl hopm .ret)
          obtain ⟨rk, hk⟩ := r2 E a w g hc hl hopk
          have hkf := hk.isFro fun sz xs e => by subst e; revert hkk; cases kk <;> simp [KK.ok]
          have hkv : a.eval k = keyV kt := KK.rep hkk (hk.isFro fun sz xs e => by subst e; revert hkk; cases kk <;> simp [KK.ok])
          obtain ⟨rv, hvl⟩ := r3 E a w g hc hl hopv
          have hvv : a.eval v = .int ik n := by generalize a.eval v = u at hvl; cases hvl with | fro hvl => cases hvl; rfl
          obtain ⟨l, ck, m1, m2, m3, m4⟩ := hc.maps i es hm
          obtain ⟨l', ck', u1, u2, u3⟩ := run_mapUpdate (mapT_ok ht) m1 m3 m4 hok hkk n
          have hlt := lt_of_heap m1
          generalize hw' : ({ w with heap := w.heap.setIfInBounds (g.bl i).1 (.map l'.toArray ck') } : World) = w' at u1
          have hold : ∀ b, b ≠ (g.bl i).1 → w'.heap[b]? = w.heap[b]? := fun b hb => by subst hw'; exact Array.getElem?_setIfInBounds_ne (fun e => hb e.symm)
          have hnew : w'.heap[(g.bl i).1]? = some (.map l'.toArray ck') := by subst hw'; exact Array.getElem?_setIfInBounds_self_of_lt hlt
          have hsz : w'.heap.size = w.heap.size := by subst hw'; simp
          have hfz : ∀ b, b < w.heap.size → g.ow b = .frozen → g.ow b = .frozen ∧ w'.heap[b]? = w.heap[b]? := fun b _ hb => ⟨hb, hold b (fun e => by rw [e, m2] at hb; cases hb)⟩
          have hst : ∀ r c, Still w w' g g r c := fun r c => ⟨fun b p _ hb => ⟨hb, hold b (fun e => by rw [e, m2] at hb; cases hb)⟩, fun _ => rfl⟩
          have hbx : ∀ j, j ≠ i → ∀ b, b < w.heap.size → g.ow b = .box j → g.ow b = .box j ∧ w'.heap[b]? = w.heap[b]? := fun j hj b _ hb => ⟨hb, hold b (fun e => by rw [e, m2] at hb; cases hb; exact hj rfl)⟩
          refine ⟨w', g, ?_, ?_, ⟨by omega, rfl, fun b _ hb => ⟨rfl, hold b (fun e => by rw [e, m2] at hb; rcases hb with hb | hb <;> cases hb)⟩, fun _ _ => rfl, fun b j hb _ ho' => ⟨ho', fun cs el fr hh => ?_⟩, (by subst hw'; exact ⟨rfl, rfl, rfl⟩), fun _ _ _ _ _ => rfl⟩, rfl⟩
          · simp only [execOp, ho, hv, hkv, hvv, Sem.run_bind, u1]
            rfl
          · show Core E (σ.upd (.mp i (mapSet es kt (.int ik n)))) a.tmps w' g
            refine Core.step hc ⟨Nat.le_refl _, hfz, fun _ _ _ h => ⟨h, fun _ => rfl⟩, fun _ _ => rfl⟩ (fun n => .inl ⟨rfl, rfl, rfl, fun c => hst _ c⟩) (fun j kd h => ?_) (fun j c => .inl rfl) (fun j e h => ?_) (fun r hr => ?_) (fun b hb => ⟨rfl, hold b (fun e => by have := (hc.glob b hb).1; rw [e, m2] at this; cases this)⟩) (by omega)
            · cases kd with
              | box m =>
                refine .inl ⟨h, fun c => ⟨rfl, hst _ c⟩, fun hb ho' => ?_⟩
                by_cases hj : j = i
                · subst hj
                  exfalso
                  obtain ⟨cs, el, b1, _⟩ := hc.objs j _ h
                  rw [m1] at b1
                  cases b1
                · exact hbx j hj _ hb ho'
              | virt =>
                obtain ⟨u, hu⟩ := hc.objs j _ h
                exact .inr ⟨u, hu.still ⟨Nat.le_refl _, hfz, fun _ _ _ h => ⟨h, fun _ => rfl⟩, fun _ _ => rfl⟩ (S := fun _ => True) (fun _ _ => trivial) (hst _ _)⟩
            · by_cases hj : j = i
              · subst hj
                simp only [Sg.upd, if_true, Option.some.injEq] at h
                subst h
                right
                refine ⟨l', ck', hnew, m2, u2, fun i' e x a1 a2 => ?_⟩
                rcases u3 i' e x a1 a2 with ⟨e0, x0, p1, p2, p3, p4, p5⟩ | ⟨p1, p2, p3, p4⟩
                · obtain ⟨b1, b2⟩ := m4 i' e0 x0 p1 p2
                  rw [p3, p4, p5]
                  exact ⟨b1.frame (Nat.le_refl _) hfz, b2.frame (Nat.le_refl _) hfz⟩
                · rw [p1, p3, p4]
                  refine ⟨?_, .int⟩
                  rw [p2, ← hkv]
                  exact hkf.frame (Nat.le_refl _) hfz
              · simp only [Sg.upd, if_neg hj] at h
                exact .inl ⟨h, fun hb ho' => hbx j hj _ hb ho'⟩
            · cases r with
              | obj j =>
                rcases hr with h | h | h
                · exact .inl h
                · exact .inr (.inl h)
                · refine .inr (.inr ?_)
                  simp only [Sg.upd]
                  split
                  · simp
                  · exact h
              | _ => exact hr
          · have hne : b ≠ (g.bl i).1 := by
              rintro rfl
              rw [m1] at hh
              cases hh
            exact ⟨cs, (hold b hne).trans hh, rfl, fun _ _ => rfl⟩
        · rw [if_neg hc0] at h; exact h.elim
    all_goals exact h.elim
end
end Vx

namespace Vx
open Go Classical
set_option linter.unusedSimpArgs false
set_option linter.unusedVariables false

/-! ## cap, min, max; parts of owned slices -/
section
variable {E : Env} {N : Nat} {o : Oper} {σ : Sg}
theorem ok_cap (hN : okOper N o = true) {xs : Array Operand} {ts : Array TypeId} (ho : o.op = .call { callee := .builtin .cap, args := xs, argTypes := ts }) (h : ((astep E.P o).run σ).ok) : OpOK E N o σ ((astep E.P o).run σ).upd := by
  simp only [astep, ho] at h ⊢
  rcases hxs : xs.toList with _ | ⟨x, _ | ⟨y, l⟩⟩
  · rw [hxs] at h; exact h.elim
  · rw [hxs] at h
    rcases hts : ts.toList with _ | ⟨t, _ | ⟨u, l⟩⟩
    · rw [hts] at h; exact h.elim
    · rw [hts] at h
      have exs : xs = #[x] := by cases xs; simp at hxs; simp [hxs]
      have ets : ts = #[t] := by cases ts; simp at hts; simp [hts]
      subst exs ets
      simp only at h ⊢
      have hopd : okOpd x = true := okOper_opd hN (by rw [ho]; simp [Op.operands, Call.operands])
      obtain ⟨a0, e1, r1⟩ := rdT_ok h
      rw [e1] at h ⊢
      cases a0 with
      | nil =>
        simp only at h ⊢
        obtain ⟨hok, _⟩ := put_ok h
        refine OpOK.pure hN h rfl fun a w g hc hl => ?_
        obtain ⟨r, hr⟩ := r1 E a w g hc hl hopd
        cases hr; rename_i hr
        generalize hv : a.eval x = v at hr
        cases hr
        obtain ⟨e, hu⟩ := isSlT_un hok
        obtain ⟨cs, he⟩ := exec_builtin (ρ := a.eval) ho
        refine ⟨.int .i64 0, ?_, fun r => .c (.t (.fro .int)), by simp [SV.roots, C.roots]⟩
        rw [he]
        show (do pure (.value (← Builtin.cap_ #[t] o.type (#[x].map a.eval))) : Sem Next).run E.P w = _
        simp [hv, Builtin.cap_, underlying, hu, goInt]
      | _ => exact h.elim
    · rw [hts] at h; exact h.elim
  · rw [hxs] at h; exact h.elim
theorem ok_max (hN : okOper N o = true) {xs : Array Operand} {ts : Array TypeId} (ho : o.op = .call { callee := .builtin .max, args := xs, argTypes := ts }) (h : ((astep E.P o).run σ).ok) : OpOK E N o σ ((astep E.P o).run σ).upd := by
  simp only [astep, ho] at h ⊢
  rcases hxs : xs.toList with _ | ⟨x, _ | ⟨y, _ | ⟨z, l⟩⟩⟩
  · rw [hxs] at h; exact h.elim
  · rw [hxs] at h; exact h.elim
  · rw [hxs] at h
    have exs : xs = #[x, y] := by cases xs; simp at hxs; simp [hxs]
    subst exs
    simp only at h ⊢
    have hopx : okOpd x = true := okOper_opd hN (by rw [ho]; simp [Op.operands, Call.operands])
    have hopy : okOpd y = true := okOper_opd hN (by rw [ho]; simp [Op.operands, Call.operands])
    obtain ⟨a0, e1, r1⟩ := rdT_ok h
    rw [e1] at h ⊢
    obtain ⟨b0, e2, r2⟩ := rdT_ok h
    rw [e2] at h ⊢
    cases a0 with
    | int k m =>
      cases b0 with
      | int j n =>
        simp only at h ⊢
        refine OpOK.pure hN h rfl fun a w g hc hl => ?_
        obtain ⟨r, hr⟩ := r1 E a w g hc hl hopx
        obtain ⟨r', hr'⟩ := r2 E a w g hc hl hopy
        cases hr; rename_i hr
        cases hr'; rename_i hr'
        generalize hv : a.eval x = v at hr
        generalize hv' : a.eval y = v' at hr'
        cases hr; cases hr'
        obtain ⟨cs, he⟩ := exec_builtin (ρ := a.eval) ho
        refine ⟨.int k (if n > m then n else m), ?_, fun r => .c (.t (.fro .int)), by simp [SV.roots, C.roots]⟩
        rw [he]
        show (do pure (.value (← Builtin.max_ ts o.type (#[x, y].map a.eval))) : Sem Next).run E.P w = _
        simp [hv, hv', Builtin.max_, Builtin.max2]
      | _ => exact h.elim
    | _ => exact h.elim
  · rw [hxs] at h; exact h.elim
theorem ok_min (hN : okOper N o = true) {xs : Array Operand} {ts : Array TypeId} (ho : o.op = .call { callee := .builtin .min, args := xs, argTypes := ts }) (h : ((astep E.P o).run σ).ok) : OpOK E N o σ ((astep E.P o).run σ).upd := by
  simp only [astep, ho] at h ⊢
  rcases hxs : xs.toList with _ | ⟨x, _ | ⟨y, _ | ⟨z, l⟩⟩⟩
  · rw [hxs] at h; exact h.elim
  · rw [hxs] at h; exact h.elim
  · rw [hxs] at h
    have exs : xs = #[x, y] := by cases xs; simp at hxs; simp [hxs]
    subst exs
    simp only at h ⊢
    have hopx : okOpd x = true := okOper_opd hN (by rw [ho]; simp [Op.operands, Call.operands])
    have hopy : okOpd y = true := okOper_opd hN (by rw [ho]; simp [Op.operands, Call.operands])
    obtain ⟨a0, e1, r1⟩ := rdT_ok h
    rw [e1] at h ⊢
    obtain ⟨b0, e2, r2⟩ := rdT_ok h
    rw [e2] at h ⊢
    cases a0 with
    | int k m =>
      cases b0 with
      | int j n =>
        simp only at h ⊢
        refine OpOK.pure hN h rfl fun a w g hc hl => ?_
        obtain ⟨r, hr⟩ := r1 E a w g hc hl hopx
        obtain ⟨r', hr'⟩ := r2 E a w g hc hl hopy
        cases hr; rename_i hr
        cases hr'; rename_i hr'
        generalize hv : a.eval x = v at hr
        generalize hv' : a.eval y = v' at hr'
        cases hr; cases hr'
        obtain ⟨cs, he⟩ := exec_builtin (ρ := a.eval) ho
        refine ⟨.int k (if n < m then n else m), ?_, fun r => .c (.t (.fro .int)), by simp [SV.roots, C.roots]⟩
        rw [he]
        show (do pure (.value (← Builtin.min_ ts o.type (#[x, y].map a.eval))) : Sem Next).run E.P w = _
        simp [hv, hv', Builtin.min_, Builtin.min2]
      | _ => exact h.elim
    | _ => exact h.elim
  · rw [hxs] at h; exact h.elim
/-- A part of a frozen slice. -/
theorem cut_frozen {w : World} {g : Gh} {sz : Nat} {xs ys : List (List T)} {l h : Int} {v : Value} (hr : FRep w g (.sl false sz xs) v) (hcut : cutRows xs l h = some ys) {t e : TypeId} {ei : TI} (hu : E.P.underlying t = some (.slice e)) (hei : tinfo E.P e = some ei) (hsz : sz = ei.size) {lo hi : Option Value}
    (b1 : BoundIs 0 lo l) (b2 : BoundIs xs.length hi h) : ∃ u, (Instr.sliceAt t v lo hi none).run E.P w = .ok u w ∧ FRep w g (.sl false sz ys) u := by
  unfold cutRows at hcut
  split at hcut
  · rename_i hc3
    cases hcut
    obtain ⟨c1, c2, c3⟩ := hc3
    have hu' : (underlying t).run E.P w = .ok (.slice e) w := by simp [underlying, hu]
    cases hr with
    | @fnil _ p cp =>
      have hz : l = 0 ∧ h = 0 := by simp at c3; omega
      obtain ⟨rfl, rfl⟩ := hz
      refine ⟨.slice (if cp = 0 then p else p.map (·.add 0)) 0 cp, ?_, by simpa using FRep.fnil⟩
      have hb := run_sliceBounds (P := E.P) (w := w) (b := true) (cap := cp) b1 b2 c1 c2 c3 (Nat.zero_le _)
      simp only [List.length_nil, Int.toNat_zero] at hb
      simp [Instr.sliceAt, Instr.slice, hu', run_sizeOf hei, hb]
    | fz vs hhp ho' hcap hlim hrw hcell hrec =>
      rename_i b off cap cs el' fr
      have hrun : (Instr.slice t (.slice (some ⟨b, off, none⟩) xs.length cap) lo hi none).run E.P w = .ok (.slice (if cap = l.toNat then some ⟨b, off, none⟩ else some ⟨b, off + l.toNat * ei.size, none⟩) (h.toNat - l.toNat) (cap - l.toNat)) w := by
        simp [Instr.slice, hu', run_sizeOf hei, run_sliceBounds b1 b2 c1 c2 c3 hcap, addr_add]
      refine ⟨.slice (if cap = l.toNat then some ⟨b, off, none⟩ else some ⟨b, off + l.toNat * ei.size, none⟩) (h.toNat - l.toNat) (cap - l.toNat), by simp [Instr.sliceAt, hu', hrun], ?_⟩
      have hylen : ((xs.take h.toNat).drop l.toNat).length = h.toNat - l.toNat := by simp; omega
      by_cases h0 : h.toNat - l.toNat = 0
      · have : (xs.take h.toNat).drop l.toNat = [] := List.length_eq_zero_iff.1 (by omega)
        rw [this, h0]
        exact .fnil
      · rw [if_neg (by omega)]
        have hget : ∀ i, i < h.toNat - l.toNat → ((xs.take h.toNat).drop l.toNat)[i]? = xs[l.toNat + i]? := fun i hi => by
          rw [List.getElem?_drop, List.getElem?_take, if_pos (by omega)]
        have := FRep.fz (w := w) (g := g) (b := b) (off := off + l.toNat * ei.size) (cap := cap - l.toNat) (sz := sz) (xs := (xs.take h.toNat).drop l.toNat) (cs := cs) (el := el') (fr := fr) (fun i c => vs (l.toNat + i) c) hhp ho' (by omega) (by omega)
          (fun row hr => hrw row (List.mem_of_mem_take (List.mem_of_mem_drop hr)))
          (fun i c hi hc' => by
            have := hcell (l.toNat + i) c (by omega) hc'
            rw [← this]; congr 1
            rw [hsz, Nat.add_mul]; omega)
          (fun i row c u hr hu' => by
            have hi : i < h.toNat - l.toNat := by have := lt_of_getElem? hr; omega
            rw [hget i hi] at hr
            exact hrec _ row c u hr hu')
        rw [hylen] at this
        exact this
  · cases hcut
theorem ok_sliceR (hN : okOper N o = true) {t : TypeId} {x : Operand} {lo hi : Option Operand} (ho : o.op = .slice t x lo hi none) (h : ((stepSliceR E.P o t x lo hi).run σ).ok) : OpOK E N o σ ((stepSliceR E.P o t x lo hi).run σ).upd := by
  have hopx : okOpd x = true := okOper_opd hN (by rw [ho]; simp [Op.operands])
  have hopl : ∀ y, lo = some y → okOpd y = true := fun y hy => okOper_opd hN (by rw [ho]; subst hy; simp [Op.operands])
  have hoph : ∀ y, hi = some y → okOpd y = true := fun y hy => okOper_opd hN (by rw [ho]; subst hy; simp [Op.operands])
  unfold stepSliceR at h ⊢
  cases hi0 : tinfo E.P t with
  | none => rw [hi0] at h; exact h.elim
  | some i =>
    obtain ⟨kd, agg, size, bytes, zero, fld, el⟩ := i
    cases el with
    | none => rw [hi0] at h; exact h.elim
    | some e =>
      rw [hi0] at h
      simp only at h ⊢
      cases hei : tinfo E.P e with
      | none => rw [hei] at h; exact h.elim
      | some ei =>
        rw [hei] at h
        simp only at h ⊢
        obtain ⟨sv, e1, _, r1⟩ := rdS_ok h
        rw [e1] at h ⊢
        obtain ⟨tl, e2, r2⟩ := optT_ok h
        rw [e2] at h ⊢
        obtain ⟨th, e3, r3⟩ := optT_ok h
        rw [e3] at h ⊢
        rcases sv with (⟨_ | ⟨r, c, _ | _⟩ | _ | _ | _ | _⟩ | _ | _)
        case c.ref.nil =>
          simp only at h ⊢
          obtain ⟨y, e4, hp⟩ := place_is h
          rw [e4] at h ⊢
          cases y with
          | sl ow sz xs =>
            cases ow with
            | false => exact h.elim
            | true =>
              simp only at h ⊢
              cases hl0 : boundT 0 tl with
              | none => rw [hl0] at h; exact h.elim
              | some l =>
                cases hh0 : boundT xs.length th with
                | none => rw [hl0, hh0] at h; exact h.elim
                | some hh =>
                  rw [hl0, hh0] at h
                  simp only at h ⊢
                  cases hcut : cutRows xs l hh with
                  | none => rw [hcut] at h; exact h.elim
                  | some ys =>
                    rw [hcut] at h
                    simp only at h ⊢
                    by_cases hsz : sz = ei.size
                    · rw [if_pos hsz] at h ⊢
                      have hc3 := hcut
                      unfold cutRows at hc3
                      split at hc3
                      · rename_i hcc
                        cases hc3
                        obtain ⟨c1, c2, c3⟩ := hcc
                        have hu0 := tinfo_elem hi0 rfl
                        have common : ∀ (x' : SV) (ok : Prop), ((Vx.put o x' [.hole r c] ok).run σ).ok → (∀ (a : Act) (w : World) (g : Gh), Core E σ a.tmps w g → a.tmps.size = N → LIM ≤ g.lim → ∃ v u, a.eval x = v ∧ Rep w g ⟨r, c, []⟩ (.sl true sz xs) v ∧ BoundIs 0 (lo.map a.eval) l ∧ BoundIs xs.length (hi.map a.eval) hh ∧ (Instr.sliceAt t v (lo.map a.eval) (hi.map a.eval) none).run E.P w = .ok u w ∧
                            (∀ (d : Nat), σ.isnew d = false → ∀ g1, Core E (σ.setP r c (.t .top)) a.tmps w g1 → Move w g w g1 → g1.lim = g.lim → Rep w g1 ⟨.new d, 0, []⟩ (.sl true sz xs) v → ∃ g2, Core E (σ.setP r c (.t .top)) a.tmps w g2 ∧ Move w g w g2 ∧ SVRep w g2 σ.dirty (.new d) 0 x' u)) → x'.roots = [] → x'.flat = true → OpOK E N o σ ((Vx.put o x' [.hole r c] ok).run σ).upd := by
                          intro x' ok hput hmain hroots hflat
                          obtain ⟨_, p2, p3⟩ := put_ok hput
                          intro a w g hc hs hl K Q hK
                          obtain ⟨v, u, hv, hrv, b1, b2, hrun, hfin⟩ := hmain a w g hc hs hl
                          have hex : (execOp a.eval o).run E.P w = .ok (.value u) w := by
                            simp only [execOp, ho, hv, Option.map_none, Sem.run_bind, hrun]
                            rfl
                          unfold Oper.wp
                          rw [hex, Oper.upon_value]
                          cases hd : o.dst with
                          | none =>
                            obtain ⟨e5, _⟩ := p3 hd
                            obtain ⟨hc1, v', _, _⟩ := hc.take1 hp (p := []) (x := .sl true sz xs) rfl ⟨.ret, 0, []⟩ (fun h => h)
                            refine hK _ w _ ?_ (Gh.reg_move w g ⟨r, c, []⟩ ⟨.ret, 0, []⟩ fun k e => by cases e) hs rfl
                            rw [e5]
                            exact hc1
                          | some d =>
                            obtain ⟨hn, e5, _⟩ := p2 d hd
                            have hnew : ¬ σ.ex (.new d) := fun h => by simp [Sg.ex, hn] at h
                            obtain ⟨hc1, v', rv, rv'⟩ := hc.take1 hp (p := []) (x := .sl true sz xs) rfl ⟨.new d, 0, []⟩ hnew
                            have hvv : v' = v := by rw [rv.own_hd, hrv.own_hd]
                            rw [hvv] at rv'
                            obtain ⟨g2, q1, q2, q3⟩ := hfin d hn _ hc1 (Gh.reg_move w g ⟨r, c, []⟩ ⟨.new d, 0, []⟩ fun k e => by cases e) rfl rv'
                            refine hK _ w g2 ?_ q2 (by simpa [Act.put] using hs) rfl
                            rw [e5]
                            show Core E ((σ.setP r c (.t .top)).upd (.slot d x')) _ w g2
                            refine q1.put (by rw [Sg.setP_isnew]; exact hn) ?_ (by rw [hroots]; simp) hflat (.inl (by rw [hs]; exact dst_lt hN hd))
                            rw [Sg.setP_dirty]
                            exact q3
                        have pre : ∀ (a : Act) (w : World) (g : Gh), Core E σ a.tmps w g → LIM ≤ g.lim → Rep w g ⟨r, c, []⟩ (.sl true sz xs) (a.eval x) ∧ BoundIs 0 (lo.map a.eval) l ∧ BoundIs xs.length (hi.map a.eval) hh := by
                          intro a w g hc hl
                          obtain ⟨u, hu⟩ := hp.rep hc
                          have hx := r1 E a w g hc hl hopx .ret
                          have e : a.eval x = u := by
                            generalize a.eval x = v at hx
                            cases hx with
                            | c hx => cases hx with | ref hx _ => rw [hx hp.dirty]; exact hu.own_hd.symm
                          exact ⟨by rw [e]; exact hu, boundT_ok hl0 r2 E a w g hc hl hopl, boundT_ok hh0 r3 E a w g hc hl hoph⟩
                        cases tl with
                        | none =>
                          simp only at h ⊢
                          have hl1 : l = 0 := by simp only [boundT, Option.some.injEq] at hl0; simpa using hl0.symm
                          subst hl1
                          refine common _ _ h (fun a w g hc hs hl => ?_) rfl rfl
                          obtain ⟨p1, p2, p3⟩ := pre a w g hc hl
                          generalize hv : a.eval x = v at p1
                          have hu' : (underlying t).run E.P w = .ok (.slice e) w := by simp [underlying, hu0]
                          cases p1 with
                          | fro p1 => exact p1.noOwn.elim
                          | onil hd0 =>
                            have hz : hh = 0 := by simp at c3; omega
                            subst hz
                            have hb := run_sliceBounds (P := E.P) (w := w) (b := true) (cap := 0) p2 p3 c1 c2 c3 (Nat.zero_le _)
                            simp only [List.length_nil, Int.toNat_zero] at hb
                            refine ⟨_, .slice none 0 0, rfl, .onil hd0, p2, p3, by simp [Instr.sliceAt, Instr.slice, hu', run_sizeOf hei, hb], fun d hn g1 hc1 mv1 _ rv1 => ⟨g1, hc1, mv1, .c (.t ?_)⟩⟩
                            simpa using rv1
                          | @own _ b off cap _ _ cs el vs hd0 hhp ho' hsize hcap hlim hrow hcell hrec =>
                            have hb := run_sliceBounds (P := E.P) (w := w) (b := true) (cap := cap) p2 p3 c1 c2 c3 hcap
                            refine ⟨_, .slice (some ⟨b, off, none⟩) hh.toNat cap, rfl, .own vs hd0 hhp ho' hsize hcap hlim hrow hcell hrec, p2, p3, ?_, fun d hn g1 hc1 mv1 _ rv1 => ?_⟩
                            · by_cases hcz : cap = 0
                              · subst hcz
                                simp [Instr.sliceAt, Instr.slice, hu', run_sizeOf hei, hb]
                              · simp [Instr.sliceAt, Instr.slice, hu', run_sizeOf hei, hb, Ne.symm hcz, Addr.add]
                            · cases rv1 with
                              | fro rv1 => exact rv1.noOwn.elim
                              | own vs' hd1 hhp1 ho1 hsize1 hcap1 hlim1 hrow1 hcell1 hrec1 =>
                                rename_i cs1 el1
                                have hn' : (σ.setP r c (.t .top)).isnew d = false := by rw [Sg.setP_isnew]; exact hn
                                obtain ⟨hc2, mv2⟩ := hc1.reown (d := d) hn' (w' := w) (ow' := g1.ow) (hd' := fun a => if a = ⟨.new d, 0, []⟩ then .slice (some ⟨b, off, none⟩) hh.toNat cap else g1.hd a) (Nat.le_refl _) (fun b _ _ => ⟨rfl, rfl⟩) (fun a ha => by
                                  rw [if_neg]
                                  rintro rfl
                                  exact ha rfl) ⟨rfl, rfl, rfl⟩
                                refine ⟨_, hc2, mv1.trans mv2, .c (.t ?_)⟩
                                have hlen : (xs.take hh.toNat).length = hh.toNat := by simp; omega
                                have key := Rep.own (w := w) (g := { g1 with ow := g1.ow, hd := fun a => if a = ⟨.new d, 0, []⟩ then .slice (some ⟨b, off, none⟩) hh.toNat cap else g1.hd a }) (a := ⟨.new d, 0, []⟩) (b := b) (off := off) (cap := cap) (sz := sz) (xs := xs.take hh.toNat) vs' (by simp [hlen]) hhp1 ho1 hsize1 (by omega) (by rw [hlen]; show hh.toNat ≤ g1.lim; omega)
                                  (fun row hr => hrow1 row (List.mem_of_mem_take hr)) (fun i c hi hc => hcell1 i c (by omega) hc) (fun i row c t hr ht => by
                                    have hi : i < hh.toNat := by have := lt_of_getElem? hr; omega
                                    rw [List.getElem?_take, if_pos hi] at hr
                                    refine (hrec1 i row c t hr ht).frame (Nat.le_refl _) (fun b _ h => ⟨h, rfl⟩) (fun b a' _ _ h => ⟨h, rfl⟩) (fun a' ha => ?_)
                                    simp only
                                    rw [if_neg]
                                    rintro rfl
                                    obtain ⟨_, _, s, hs⟩ := ha
                                    simp [CA.hop] at hs)
                                rw [hlen] at key
                                simpa using key
                        | some tl =>
                          simp only at h ⊢
                          refine common _ _ h (fun a w g hc hs hl => ?_) rfl rfl
                          obtain ⟨p1, p2, p3⟩ := pre a w g hc hl
                          have hfzn : ∀ (q : CA) (g0 : Gh), Rep w g0 q (.sl true sz xs) (a.eval x) → ∃ u, (Instr.sliceAt t (a.eval x) (lo.map a.eval) (hi.map a.eval) none).run E.P w = .ok u w ∧ FRep w { g0 with ow := fun b => match g0.ow b with | .own a' => if a'.root = q.root then .frozen else .own a' | t => t } (.sl false sz (T.viewR ((xs.take hh.toNat).drop l.toNat))) u := by
                            intro q g0 hr
                            have hz := hr.freeze (g' := { g0 with ow := fun b => match g0.ow b with | .own a' => if a'.root = q.root then .frozen else .own a' | t => t }) (Nat.le_refl _) (fun b _ h => by simp [h]) (fun b a' _ ha h => by simp [h, ha.1])
                            have hvw : (T.sl true sz xs).view = .sl false sz (T.viewR xs) := rfl
                            rw [hvw] at hz
                            have hlv : (T.viewR xs).length = xs.length := by rw [T.viewR_eq]; simp
                            have hcv : cutRows (T.viewR xs) l hh = some (T.viewR ((xs.take hh.toNat).drop l.toNat)) := by
                              unfold cutRows
                              rw [if_pos ⟨c1, c2, by rw [hlv]; exact c3⟩, T.viewR_eq, T.viewR_eq, List.map_drop, List.map_take]
                            exact cut_frozen hz hcv hu0 hei hsz p2 (by rw [hlv]; exact p3)
                          obtain ⟨u, hrun, _⟩ := hfzn _ g p1
                          refine ⟨_, u, rfl, p1, p2, p3, hrun, fun d hn g1 hc1 mv1 hl1 rv1 => ?_⟩
                          obtain ⟨u', hrun', hf⟩ := hfzn _ g1 rv1
                          rw [hrun] at hrun'
                          cases hrun'
                          have hn' : (σ.setP r c (.t .top)).isnew d = false := by rw [Sg.setP_isnew]; exact hn
                          have hnex : ∀ q, (σ.setP r c (.t .top)).ex q → q ≠ .new d := by rintro q hq rfl; simp [Sg.ex, hn'] at hq
                          refine ⟨{ g1 with ow := fun b => match g1.ow b with | .own a' => if a'.root = (⟨.new d, 0, []⟩ : CA).root then .frozen else .own a' | t => t }, ?_, mv1.trans (Gh.move_same rfl (fun b => ⟨fun h => by rcases h with h | h <;> simp [h], fun k h => by simp [h]⟩) rfl fun _ _ _ _ => rfl), .c (.t (.fro hf))⟩
                          refine Core.step hc1 ⟨Nat.le_refl _, fun b _ h => ⟨by simp [h], rfl⟩, fun _ _ _ h => ⟨h, fun _ => rfl⟩, fun _ _ => rfl⟩ (fun n => .inl ⟨rfl, rfl, rfl, fun c' => ⟨fun b p _ h => ⟨?_, rfl⟩, fun _ => rfl⟩⟩) (fun k kd h => .inl ⟨h, fun c' => ⟨rfl, fun b p _ h => ⟨by simp [h], rfl⟩, fun _ => rfl⟩, fun _ h => ⟨by simp [h], rfl⟩⟩) (fun k c => .inl rfl) (fun k es h => .inl ⟨h, fun _ h => ⟨by simp [h], rfl⟩⟩) (fun _ h => h) (fun b hb => ⟨by simp [(hc1.glob b hb).1], rfl⟩) (Nat.le_refl _)
                          have := hnex _ ((σ.setP r c (.t .top)).rt_ex n)
                          simp only [h]
                          rw [if_neg this]
                      · cases hc3
                    · rw [if_neg hsz] at h; exact h.elim
          | _ => exact h.elim
        all_goals exact h.elim
theorem ok_slice (hN : okOper N o = true) {t : TypeId} {x : Operand} {lo hi mx : Option Operand} (ho : o.op = .slice t x lo hi mx) (h : ((astep E.P o).run σ).ok) : OpOK E N o σ ((astep E.P o).run σ).upd := by
  cases mx with
  | some m => simp only [astep, ho] at h; exact h.elim
  | none =>
    simp only [astep, ho] at h ⊢
    obtain ⟨sv, e1, _⟩ := rdS_ok h
    rw [e1] at h ⊢
    split at h
    · exact ok_sliceR hN ho h
    · exact ok_sliceT hN ho h
end
end Vx

namespace Vx
open Go Classical
set_option linter.unusedSimpArgs false
set_option linter.unusedVariables false

section
variable {E : Env} {N : Nat} {o : Oper} {σ : Sg}
theorem ok_pick (hN : okOper N o = true) {c : Nat} {a b : Operand} {t : Bool} (ho : o.op = .pick (.tmp c) a b) (hs : σ.slot c = .c (.t (.bool t)))
    (h : ((rdS (if t then a else b) fun sv => Vx.put o sv [] (sv.row.isSome = true)).run σ).ok) : OpOK E N o σ ((rdS (if t then a else b) fun sv => Vx.put o sv [] (sv.row.isSome = true)).run σ).upd := by
  have hopd : okOpd (if t then a else b) = true := okOper_opd hN (by rw [ho]; cases t <;> simp [Op.operands])
  obtain ⟨sv, e1, hr, e2⟩ := rdS_ok h
  rw [e1] at h ⊢
  obtain ⟨hrow, _⟩ := put_ok h
  refine OpOK.pure hN h rfl (fun ac w g hc hl => ⟨ac.eval (if t then a else b), ?_, e2 E ac w g hc hl hopd, fun r hq => hr r hq _ _ _ _ hc⟩) (SV.flat_row hrow)
  have hv : ac.eval (.tmp c) = .bool t := slot_bool hc hs
  simp [execOp, ho, hv, asBool]
  cases t <;> rfl

theorem ok_store (hN : okOper N o = true) {t : TypeId} {p v : Operand} (ho : o.op = .store t p v) (h : ((astep E.P o).run σ).ok) : OpOK E N o σ ((astep E.P o).run σ).upd := by
  have hopd : okOpd p = true := okOper_opd hN (by rw [ho]; simp [Op.operands])
  simp only [astep, ho] at h ⊢
  unfold stepStore at h ⊢
  cases hi : tinfo E.P t with
  | none => rw [hi] at h; exact h.elim
  | some i =>
    rw [hi] at h
    simp only at h ⊢
    obtain ⟨sv, e1, hr, e2⟩ := rdS_ok h
    rw [e1] at h ⊢
    rcases sv with ((tt | pp | ⟨r, c, _ | ⟨hp, q⟩⟩ | ⟨row, c⟩ | _ | _) | _ | _)
    case c.ptr.nil =>
      cases r with
      | obj k =>
        simp only [Rd.run] at h ⊢
        cases hk : σ.kind k with
        | none => rw [hk] at h; exact h.elim
        | some kd =>
          cases kd with
          | virt => rw [hk] at h; exact h.elim
          | box m =>
            rw [hk] at h
            simp only at h ⊢
            exact ok_store_box hN ho hi (k := k) (c := c) (m := m) (fun a w g hc hl => by
              have hx := e2 E a w g hc hl hopd .ret
              cases hx; rename_i hx
              exact hx.ptr_val (.inl rfl)) hk h rfl
      | _ => exact h.elim
    case c.ptr.cons =>
      refine ok_store_path hN ho hi (r := r) (c := c) (h := hp) (q := q) (fun a w g hc hl => ?_) (A := _) ?_ h rfl
      · have hx := e2 E a w g hc hl hopd .ret
        cases hx; rename_i hx
        exact hx
      · cases r <;> rfl
    all_goals exact h.elim
theorem astep_ok (hN : okOper N o = true) (h : ((astep E.P o).run σ).ok) : OpOK E N o σ ((astep E.P o).run σ).upd := by
  cases ho : o.op with
  | move x => exact ok_move hN ho h
  | assign x => exact ok_assign hN ho h
  | nilCheck x => exact ok_nilCheck hN ho h
  | binOp op xt x y yt => exact ok_binOp hN ho h
  | unOp op xt x =>
    cases op with
    | not => exact ok_not hN ho h
    | neg => exact ok_neg hN ho h
    | _ => unfold astep at h; rw [ho] at h; exact h.elim
  | fieldAddr s x f => exact ok_fieldAddr hN ho h
  | indexAddr t x i => exact ok_indexAddr hN ho h
  | load t p => exact ok_load hN ho h
  | store t p v => exact ok_store hN ho h
  | alloc t => exact ok_alloc hN ho h
  | box t x => exact ok_box hN ho h
  | build t parts => exact ok_build hN ho h
  | makeSlice t l c => exact ok_makeSlice hN ho h
  | extract x i => exact ok_extract hN ho h
  | index t x i => exact ok_index hN ho h
  | convert s d x => exact ok_convert hN ho h
  | slice t x lo hi mx => exact ok_slice hN ho h
  | makeFunc fn first caps => exact ok_makeFunc hN ho h
  | buildSlice t n parts => exact ok_buildSlice hN ho h
  | makeMap t r => exact ok_makeMap hN ho h
  | lookup t m k ok => exact ok_lookup hN ho h
  | mapUpdate t m k v => exact ok_mapUpdate hN ho h
  | call c =>
    obtain ⟨callee, args, ats⟩ := c
    cases callee with
    | builtin b =>
      cases b with
      | len => exact ok_len hN ho h
      | append => exact ok_append hN ho h
      | cap => exact ok_cap hN ho h
      | max => exact ok_max hN ho h
      | min => exact ok_min hN ho h
      | _ => unfold astep at h; rw [ho] at h; exact h.elim
    | _ => unfold astep at h; rw [ho] at h; exact h.elim
  | _ => unfold astep at h; rw [ho] at h; exact h.elim
theorem step1_ok (E : Env) (N : Nat) : Step1OK E N (Returns E) := by
  intro o an σ hN h
  unfold ostep1 at h ⊢
  split at h
  · rename_i c a b ho
    simp only [Rd.run] at h ⊢
    split at h
    · rename_i t hs
      exact ok_pick hN ho hs h
    · exact h.elim
  · rename_i g args ats ho
    exact call_ok hN ho h
  · rename_i g args ats ho
    exact callv_ok hN ho h
  · exact astep_ok hN h
end
end Vx

namespace Vx
open Go

/-! ## Rules for the walk: what comes after an operation is hidden behind a variable -/
section
variable {P : Program} {R : Rel} {keep : Kp} {Q : AX → St → Prop} {s : St}
theorem region_rule {id : Nat} {ops : List Oper} {draw : Bool} (h : aops P R ops ops s [] (fun s l => (draw = true → indep ops l = true) ∧ Q .normal ((s.weak id keep.2).fix keep.1))) : awp P R keep (.region id ops.toArray draw) Q s := by
  simpa [awp] using h
theorem seq_rule {a b : Code} (h : awp P R keep a (fun e s => match e with | .normal => awp P R keep b Q s | e => Q e s) s) : awp P R keep (.seq a b) Q s := h
theorem skip_rule (h : Q .normal s) : awp P R keep .skip Q s := h
theorem ret_rule (h : Q .ret s) : awp P R keep .ret Q s := h
theorem exit_rule {id : Nat} (h : Q (.exit id) s) : awp P R keep (.exit id) Q s := h
theorem block_rule {id : Nat} {c : Code} (h : awp P R keep c (fun e s => match e with | .exit j => if j = id then Q .normal s else Q (.exit j) s | e => Q e s) s) : awp P R keep (.block id c) Q s := h
theorem loop_rule {c : Code} (h : aloop (awp P R keep c) Q s) : awp P R keep (.loop c) Q s := h
theorem cond_rule {c : Nat} {a b : Code} {t : Bool} (hs : s.slot c = .c (.t (.bool t))) (ha : t = true → awp P R keep a Q s) (hb : t = false → awp P R keep b Q s) : awp P R keep (.cond (.tmp c) a b) Q s := by
  simp only [awp, hs]
  exact ⟨ha, hb⟩
theorem nil_rule {ops : List Oper} {l : List (List Loc × List Loc)} {K : Kont} (h : K s l) : aops P R ops [] s l K := h
theorem op_rule {ops : List Oper} {o : Oper} {r : List Oper} {l : List (List Loc × List Loc)} {K0 : Kont} (h : ∀ K : Kont, (∀ s l, aops P R ops r s l K0 → K s l) → aop P R ops o s l K) : aops P R ops (o :: r) s l K0 := h _ fun _ _ h => h
theorem awp_fix {c : Code} {s' : St} {keep' : List Nat} (hs : s.fix keep' = s') (h : awp P R keep c Q s') : awp P R keep c Q (s.fix keep') := hs ▸ h
theorem fnPost_fix {ts : List ResultVar} {res : SV} {out : List AR} {s' : St} {keep' : List Nat} (hs : s.fix keep' = s') (h : fnPost P ts res out s') : fnPost P ts res out (s.fix keep') := hs ▸ h
theorem fix_rule {Q' : St → Prop} {s' : St} (hs : s = s') (h : Q' s') : Q' s := hs ▸ h
end
end Vx

