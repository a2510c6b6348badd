import Derived.Test.YtjfpbaknhaikmaaV10
namespace Vx
open Go Classical
set_option linter.unusedSimpArgs false
set_option linter.unusedVariables false

theorem cell_of {w : World} {b o : Nat} {cs : Array Value} {el : TypeId} {fr : Nat × Nat} (h : w.heap[b]? = some (.cells cs el fr)) : w.cell? ⟨b, o, none⟩ = cs[o]? := by
  simp [World.cell?, h]
theorem run_loadAt_scalar {P : Program} {t : TypeId} {i : TI} (h : tinfo P t = some i) (ha : i.agg = false) {b o : Nat} {w : World} {v : Value} (hc : w.cell? ⟨b, o, none⟩ = some v) :
    (Instr.loadAt t (.pointer (some ⟨b, o, none⟩))).run P w = .ok v w := by
  simp [Instr.loadAt, Instr.sureAddr, loadVar, run_isAgg h, ha, hc]
theorem run_loadAt_agg {P : Program} {t : TypeId} {i : TI} (h : tinfo P t = some i) (ha : i.agg = true) {b o : Nat} {w : World} (f : Nat → Value) (hc : ∀ j, j < i.size → w.cell? ⟨b, o + j, none⟩ = some (f j)) :
    (Instr.loadAt t (.pointer (some ⟨b, o, none⟩))).run P w = .ok (.agg ((List.range i.size).map f).toArray) w := by
  have h1 := run_loadCells (P := P) w ⟨b, o, none⟩ i.size f (fun j hj => by rw [addr_add]; exact hc j hj)
  simp [Instr.loadAt, Instr.sureAddr, loadVar, run_isAgg h, ha, run_sizeOf h, h1]

theorem atCells_spec {t : T} : ∀ {n : Nat} {h : Hop} {q : List Hop} {l : List T}, atCells t h q n = some l → l.length = n ∧ ∀ j x, l[j]? = some x → t.at ({ h with c := h.c + j } :: q) = some x
  | 0, h, q, l, e => by simp [atCells] at e; subst e; simp
  | n + 1, h, q, l, e => by
    simp only [atCells, Option.bind_eq_some_iff, Option.map_eq_some_iff] at e
    obtain ⟨x, h1, l', h2, rfl⟩ := e
    obtain ⟨e1, e2⟩ := atCells_spec h2
    refine ⟨by simp [e1], fun j y hj => ?_⟩
    cases j with
    | zero => simp at hj; subst hj; simpa using h1
    | succ j =>
      simp only [List.getElem?_cons_succ] at hj
      have := e2 j y hj
      simp only [Nat.add_assoc, Nat.add_comm 1 j] at this
      exact this
theorem readCells_run {σ : Sg} {k : Nat} : ∀ {n c : Nat} {f : List C → Rd Eff}, (readCells k c n f).run σ = (f ((List.range n).map fun j => (σ.cell k (c + j)).alias ⟨.obj k, c + j, []⟩)).run σ
  | 0, c, f => by simp [readCells]
  | n + 1, c, f => by
    simp only [readCells, Rd.run]
    rw [readCells_run]
    simp only [List.range_succ_eq_map, List.map_cons, List.map_map, Nat.add_zero]
    congr 3
    apply List.map_congr_left
    intro j _
    simp [Nat.add_assoc, Nat.add_comm 1 j]
theorem aliasHop_get {a : CA} : ∀ {l : List T} {h : Hop} {j : Nat} {x : C}, (aliasHop a h l)[j]? = some x → ∃ y, l[j]? = some y ∧ x = (C.t y).alias { a with path := { h with c := h.c + j } :: a.path }
  | [], h, j, x, e => by simp [aliasHop] at e
  | y :: l, h, 0, x, e => by simp [aliasHop] at e; exact ⟨y, rfl, by rw [← e]; simp⟩
  | y :: l, h, j + 1, x, e => by
    simp only [aliasHop, List.getElem?_cons_succ] at e ⊢
    obtain ⟨z, h1, h2⟩ := aliasHop_get e
    exact ⟨z, h1, by rw [h2]; simp [Nat.add_assoc, Nat.add_comm 1 j]⟩
theorem aliasHop_length (a : CA) : ∀ (l : List T) (h : Hop), (aliasHop a h l).length = l.length
  | [], _ => rfl
  | _ :: l, h => by simp [aliasHop, aliasHop_length a l]
theorem aliasHop_roots (a : CA) : ∀ (l : List T) (h : Hop), ∀ r ∈ C.rootsL (aliasHop a h l), r = a.root
  | [], _, r, e => by simp [aliasHop, C.rootsL] at e
  | x :: l, h, r, e => by
    simp only [aliasHop, C.rootsL, List.mem_append] at e
    rcases e with e | e
    · rcases C.alias_roots _ _ r e with e | e
      · exact e
      · simp [C.roots] at e
    · exact aliasHop_roots a l _ r e

/-- What a pointer into an owned slice reads. -/
theorem Core.atPath {E : Env} {σ : Sg} {tmps : Array Value} {w : World} {g : Gh} (hc : Core E σ tmps w g) {r : Root} {c : Nat} {t x : T} {h : Hop} {q : List Hop}
    (h1 : ∀ n, (r = .slot n ∨ r = .new n) → r = σ.rt n ∧ (σ.slot n).cellAt c = some (.t t)) (h2 : ∀ k, r = .obj k → σ.inr k c = true ∧ σ.cell k c = .t t) (h3 : r ≠ .ret)
    (hx : t.at (h :: q) = some x) {b off n cap : Nat} (hhd : g.hd ⟨r, c, q⟩ = .slice (some ⟨b, off, none⟩) n cap) :
    ∃ u, w.cell? ⟨b, off + h.i * h.sz + h.c, none⟩ = some u ∧ Rep w g ⟨r, c, h :: q⟩ x u := by
  obtain ⟨v, hv⟩ := hc.place h1 h2 h3
  simp only [T.at] at hx
  cases hy : t.at q with
  | none => rw [hy] at hx; cases hx
  | some y =>
    rw [hy] at hx
    simp only [Option.bind_some] at hx
    obtain ⟨u, hu, _⟩ := hv.at hy
    obtain ⟨b', off', n', cap', cs, el, u2, e1, e2, e3, e4, _, e6, e7⟩ := hu.sub hx
    have ego : (⟨r, c, []⟩ : CA).go q = ⟨r, c, q⟩ := by simp [CA.go]
    rw [ego] at e2 e7
    rw [e1, hhd] at e2
    cases e2
    exact ⟨u2, by rw [cell_of e4]; exact e6, e7⟩

theorem Rep.aliasT {w : World} {g : Gh} {d : Dirt} {a : CA} {x : T} {v : Value} (h : Rep w g a x v) (a' : CA) : CRep w g d a' ((C.t x).alias a) v := (CRep.t h).alias a'

section
variable {E : Env} {N : Nat} {o : Oper} {σ : Sg}

theorem ok_load (hN : okOper N o = true) {t : TypeId} {p : Operand} (ho : o.op = .load t p) (h : ((astep E.P o).run σ).ok) : OpOK E N o σ ((astep E.P o).run σ).upd := by
  have hopd : okOpd p = true := okOper_opd hN (by rw [ho]; simp [Op.operands])
  simp only [astep, ho] at h ⊢
  unfold stepLoad at h ⊢
  cases hi : tinfo E.P t with
  | none => rw [hi] at h; exact h.elim
  | some i =>
    rw [hi] at h
    simp only at h ⊢
    have hex : ∀ (a : Act) w v b off, a.eval p = .pointer (some ⟨b, off, none⟩) → (Instr.loadAt t (.pointer (some ⟨b, off, none⟩))).run E.P w = .ok v w → (execOp a.eval o).run E.P w = .ok (.value v) w := by
      intro a w v b off hv hrun
      simp [execOp, ho, hv, hrun]
    obtain ⟨sv, e1, hr, e2⟩ := rdS_ok h
    rw [e1] at h ⊢
    rcases sv with ((tt | pp | ⟨r, c, _ | ⟨hp, q⟩⟩ | ⟨row, c⟩ | _ | _) | _ | _)
    case c.fp =>
      simp only at h ⊢
      cases ha : i.agg with
      | true =>
        rw [ha] at h
        simp only [if_true] at h ⊢
        obtain ⟨hle, _⟩ := put_ok h
        refine OpOK.pure hN h rfl fun a w g hc hl => ?_
        have hx := e2 E a w g hc hl hopd .ret
        cases hx; rename_i hx
        generalize hv : a.eval p = v at hx
        cases hx with
        | fp vs hh ho' hcell hrec =>
          rename_i b off cs el fr
          refine ⟨.agg ((List.range i.size).map fun j => vs (c + j)).toArray, hex a w _ b (off + c) hv (run_loadAt_agg hi ha _ fun j hj => ?_), fun r' => ?_, fun r hq => ?_⟩
          · rw [cell_of hh, Nat.add_assoc]; exact hcell _ (by omega)
          · have hlen : (((row.drop c).take i.size).map C.t).length = i.size := by simp; omega
            have := SVRep.agg (w := w) (g := g) (d := σ.dirty) (r := r') (n := 0) (row := ((row.drop c).take i.size).map C.t) (fun j => vs (c + j)) (fun j x hj => by
              simp only [List.getElem?_map, Option.map_eq_some_iff] at hj
              obtain ⟨y, h1, rfl⟩ := hj
              have h2 : row[c + j]? = some y := by
                rw [List.getElem?_take] at h1
                split at h1
                · rw [List.getElem?_drop] at h1; exact h1
                · cases h1
              exact .t (.fro (hrec _ _ h2)))
            rw [hlen] at this
            exact this
          · simp only [SV.roots] at hq
            obtain ⟨x, hx1, hx2⟩ := C.mem_rootsL.1 hq
            obtain ⟨y, _, rfl⟩ := List.mem_map.1 hx1
            simp [C.roots] at hx2
      | false =>
        rw [ha] at h
        simp only [Bool.false_eq_true, if_false] at h ⊢
        cases hrow : row[c]? with
        | none => rw [hrow] at h; exact h.elim
        | some x =>
          rw [hrow] at h
          simp only at h ⊢
          refine OpOK.pure hN h rfl fun a w g hc hl => ?_
          have hx := e2 E a w g hc hl hopd .ret
          cases hx; rename_i hx
          generalize hv : a.eval p = v at hx
          cases hx with
          | fp vs hh ho' hcell hrec =>
            rename_i b off cs el fr
            refine ⟨vs c, hex a w _ b (off + c) hv (run_loadAt_scalar hi ha ?_), fun r' => .c (.t (.fro (hrec _ _ hrow))), by simp [SV.roots, C.roots]⟩
            rw [cell_of hh]; exact hcell _ (lt_of_getElem? hrow)
    case c.ptr.nil =>
      cases r with
      | obj k =>
        simp only [Rd.run] at h ⊢
        cases hk : σ.kind k with
        | none => rw [hk] at h; exact h.elim
        | some kd =>
          cases kd with
          | virt => rw [hk] at h; exact h.elim
          | box m =>
            rw [hk] at h
            simp only at h ⊢
            cases ha : i.agg with
            | true =>
              rw [ha] at h
              simp only [if_true] at h ⊢
              rw [readCells_run] at h ⊢
              obtain ⟨hle, _⟩ := put_ok h
              refine OpOK.pure hN h rfl fun a w g hc hl => ?_
              have hx := e2 E a w g hc hl hopd .ret
              cases hx; rename_i hx
              obtain ⟨k', ek, hv⟩ := PRep.path_nil.1 (hx.ptr_val (.inl rfl))
              cases ek
              obtain ⟨cs, el, b1, b2, b3, b4, b5⟩ := hc.objs k _ hk
              have hch : ∀ j, ∃ u, c + j < m → cs[(g.bl k).2.1 + (c + j)]? = some u ∧ CRep w g σ.dirty ⟨.obj k, c + j, []⟩ (σ.cell k (c + j)) u := by
                intro j
                by_cases e : c + j < m
                · obtain ⟨u, h1, h2⟩ := b5 _ e
                  exact ⟨u, fun _ => ⟨h1, h2⟩⟩
                · exact ⟨undef, fun e' => absurd e' e⟩
              let vs : Nat → Value := fun j => choose (hch j)
              have hvs : ∀ j, c + j < m → cs[(g.bl k).2.1 + (c + j)]? = some (vs j) ∧ CRep w g σ.dirty ⟨.obj k, c + j, []⟩ (σ.cell k (c + j)) (vs j) := fun j => choose_spec (hch j)
              refine ⟨.agg ((List.range i.size).map vs).toArray, hex a w _ _ _ hv (run_loadAt_agg hi ha _ fun j hj => ?_), fun r' => ?_, fun r hq => ?_⟩
              · rw [cell_of b1, Nat.add_assoc]; exact (hvs j (by omega)).1
              · have := SVRep.agg (w := w) (g := g) (d := σ.dirty) (r := r') (n := 0) (row := (List.range i.size).map fun j => (σ.cell k (c + j)).alias ⟨.obj k, c + j, []⟩) vs (fun j x hj => by
                  simp only [List.getElem?_map, Option.map_eq_some_iff] at hj
                  obtain ⟨j', h1, rfl⟩ := hj
                  have hjl := lt_of_getElem? h1
                  simp at hjl
                  rw [List.getElem?_range hjl] at h1
                  cases h1
                  exact ((hvs j (by omega)).2).alias _)
                simp only [List.length_map, List.length_range] at this
                exact this
              · simp only [SV.roots] at hq
                obtain ⟨x, hx1, hx2⟩ := C.mem_rootsL.1 hq
                obtain ⟨j, _, rfl⟩ := List.mem_map.1 hx1
                rcases C.alias_roots _ _ r hx2 with e | e
                · rw [e]; exact .inr (.inl (by rw [hk]; simp))
                · exact hc.liveC _ _ _ e
            | false =>
              rw [ha] at h
              simp only [Bool.false_eq_true, if_false, Rd.run] at h ⊢
              obtain ⟨⟨hlt, hsz⟩, _⟩ := put_ok h
              refine OpOK.pure hN h rfl fun a w g hc hl => ?_
              have hx := e2 E a w g hc hl hopd .ret
              cases hx; rename_i hx
              obtain ⟨k', ek, hv⟩ := PRep.path_nil.1 (hx.ptr_val (.inl rfl))
              cases ek
              obtain ⟨cs, el, b1, b2, b3, b4, b5⟩ := hc.objs k _ hk
              obtain ⟨u, h1, h2⟩ := b5 c hlt
              refine ⟨u, hex a w _ _ _ hv (run_loadAt_scalar hi ha ?_), fun r' => .c (h2.alias _), fun r hq => ?_⟩
              · rw [cell_of b1]; exact h1
              · rcases C.alias_roots _ _ r hq with e | e
                · rw [e]; exact .inr (.inl (by rw [hk]; simp))
                · exact hc.liveC _ _ _ e
      | _ => exact h.elim
    case c.ptr.cons =>
      have hplace : ((place r c fun t => if i.agg then match atCells t hp q i.size with
          | some l => put o (.agg (aliasHop ⟨r, c, q⟩ hp l)) [] True
          | none => fail
        else match t.at (hp :: q) with
          | some x => put o (.c ((C.t x).alias ⟨r, c, hp :: q⟩)) [] (i.size = 1)
          | none => fail).run σ).ok := by cases r <;> exact h
      have hg2 : ∀ (A : Rd Eff), A = place r c (fun t => if i.agg then match atCells t hp q i.size with
          | some l => put o (.agg (aliasHop ⟨r, c, q⟩ hp l)) [] True
          | none => fail
        else match t.at (hp :: q) with
          | some x => put o (.c ((C.t x).alias ⟨r, c, hp :: q⟩)) [] (i.size = 1)
          | none => fail) → OpOK E N o σ (A.run σ).upd := by
        rintro A rfl
        obtain ⟨tt, ep, hd, hex', p1, p2, p3⟩ := place_ok hplace
        rw [ep] at hplace ⊢
        cases ha : i.agg with
        | true =>
          rw [ha] at hplace
          simp only [if_true] at hplace ⊢
          cases hl : atCells tt hp q i.size with
          | none => rw [hl] at hplace; exact hplace.elim
          | some l =>
            rw [hl] at hplace
            simp only at hplace ⊢
            obtain ⟨hlen, hat⟩ := atCells_spec hl
            refine OpOK.pure hN hplace rfl fun a w g hc hlim => ?_
            have hx := e2 E a w g hc hlim hopd .ret
            cases hx; rename_i hx
            obtain ⟨b, off, m, cap, hhd, hv⟩ := PRep.path_cons.1 (hx.ptr_val (.inr hd))
            have hch : ∀ j, ∃ u, ∀ x, l[j]? = some x → w.cell? ⟨b, off + hp.i * hp.sz + hp.c + j, none⟩ = some u ∧ Rep w g ⟨r, c, { hp with c := hp.c + j } :: q⟩ x u := by
              intro j
              cases hj : l[j]? with
              | none => exact ⟨undef, fun x e => by cases e⟩
              | some x =>
                obtain ⟨u, h1, h2⟩ := hc.atPath p1 p2 p3 (hat j x hj) hhd
                exact ⟨u, fun y e => by cases e; exact ⟨by rw [Nat.add_assoc]; exact h1, h2⟩⟩
            let vs : Nat → Value := fun j => choose (hch j)
            have hvs : ∀ j x, l[j]? = some x → w.cell? ⟨b, off + hp.i * hp.sz + hp.c + j, none⟩ = some (vs j) ∧ Rep w g ⟨r, c, { hp with c := hp.c + j } :: q⟩ x (vs j) := fun j => choose_spec (hch j)
            refine ⟨.agg ((List.range i.size).map vs).toArray, hex a w _ _ _ hv (run_loadAt_agg hi ha _ fun j hj => ?_), fun r' => ?_, fun r2 hq => ?_⟩
            · rw [← hlen] at hj
              exact (hvs j l[j] (List.getElem?_eq_getElem hj)).1
            · have := SVRep.agg (w := w) (g := g) (d := σ.dirty) (r := r') (n := 0) (row := aliasHop ⟨r, c, q⟩ hp l) vs (fun j x hj => by
                obtain ⟨y, h1, rfl⟩ := aliasHop_get hj
                exact ((hvs j y h1).2).aliasT _)
              rw [aliasHop_length, hlen] at this
              exact this
            · simp only [SV.roots] at hq
              rw [aliasHop_roots _ _ _ _ hq]
              exact hex'
        | false =>
          rw [ha] at hplace
          simp only [Bool.false_eq_true, if_false] at hplace ⊢
          cases hl : tt.at (hp :: q) with
          | none => rw [hl] at hplace; exact hplace.elim
          | some x =>
            rw [hl] at hplace
            simp only at hplace ⊢
            refine OpOK.pure hN hplace rfl fun a w g hc hlim => ?_
            have hx := e2 E a w g hc hlim hopd .ret
            cases hx; rename_i hx
            obtain ⟨b, off, m, cap, hhd, hv⟩ := PRep.path_cons.1 (hx.ptr_val (.inr hd))
            obtain ⟨u, h1, h2⟩ := hc.atPath p1 p2 p3 hl hhd
            refine ⟨u, hex a w _ _ _ hv (run_loadAt_scalar hi ha h1), fun r' => .c (h2.aliasT _), fun r2 hq => ?_⟩
            rcases C.alias_roots _ _ r2 hq with e | e
            · rw [e]; exact hex'
            · simp [C.roots] at e
      refine hg2 _ ?_
      cases r <;> rfl
    all_goals exact h.elim
end
end Vx
