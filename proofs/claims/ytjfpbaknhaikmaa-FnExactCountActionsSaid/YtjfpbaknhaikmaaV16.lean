import Derived.Test.YtjfpbaknhaikmaaV15
import Derived.Great.FillDense
import Derived.Laws.Tables
namespace Vx
open Go Classical
set_option linter.unusedSimpArgs false
set_option linter.unusedVariables false

inductive F2 {α β : Type} (R : α → β → Prop) : List α → List β → Prop where
  | nil : F2 R [] []
  | cons {a b l m} (h : R a b) (t : F2 R l m) : F2 R (a :: l) (b :: m)
theorem F2.mono {α β : Type} {R S : α → β → Prop} {l : List α} {m : List β} (h : F2 R l m) (hs : ∀ a b, R a b → S a b) : F2 S l m := by
  induction h with
  | nil => exact .nil
  | cons h t ih => exact .cons (hs _ _ h) ih

theorem rdRow_ok {σ : Sg} {x : Operand} {f : List C → Rd Eff} (h : ((rdRow x f).run σ).ok) : ∃ row, (rdRow x f).run σ = (f row).run σ ∧
    ∀ E a w g, Core E σ (Act.tmps a) w g → LIM ≤ g.lim → okOpd x = true → ∃ vs, CellsOK σ w g row vs ∧ (a.eval x).cells = ((List.range row.length).map vs).toArray := by
  unfold rdRow at h ⊢
  obtain ⟨sv, e1, hr, e2, e3, _⟩ := rdS_ok2 h
  rw [e1] at h ⊢
  cases sv with
  | c y =>
    simp only at h ⊢
    by_cases ho : y.one = true
    · rw [if_pos ho] at h ⊢
      refine ⟨[y], rfl, fun E a w g hc hl hopd => ?_⟩
      have hx := e2 E a w g hc hl hopd .ret
      obtain ⟨vs, h1, h2⟩ := hx.cells rfl (fun z hz => by cases hz; cases hx with | c hx => exact hx.one ho)
      exact ⟨vs, fun j z hj => ⟨⟨_, h1 j z hj⟩, e3 _ rfl z (List.mem_of_getElem? hj), fun r hq => hr r (by
        have := List.mem_of_getElem? hj
        simp at this; subst this; exact hq) _ _ _ _ hc⟩, h2⟩
    · rw [if_neg ho] at h; exact h.elim
  | agg row =>
    simp only at h ⊢
    refine ⟨row, rfl, fun E a w g hc hl hopd => ?_⟩
    have hx := e2 E a w g hc hl hopd .ret
    obtain ⟨vs, h1, h2⟩ := hx.cells rfl (fun z hz => by cases hz)
    exact ⟨vs, fun j z hj => ⟨⟨_, h1 j z hj⟩, e3 _ rfl z (List.mem_of_getElem? hj), fun r hq => hr r (by simp only [SV.roots]; exact C.mem_rootsL.2 ⟨z, List.mem_of_getElem? hj, hq⟩) _ _ _ _ hc⟩, h2⟩
  | tup l => exact h.elim

theorem tinfo_zero {P : Program} {t : TypeId} {i : TI} (h : tinfo P t = some i) (h1 : i.zero.length = i.size) (h2 : 0 < i.size) : ∃ inf z, P.info? t = some inf ∧ inf.zero = some z ∧ i.zero = z.cells.toList.map T.ofV ∧ z.cells.all smallC = true ∧ inf.size = i.size ∧ z.cells.size = i.size := by
  obtain ⟨inf, d, a1, a2, a3, _, a5, _⟩ := tinfo_some h
  cases hz : inf.zero with
  | none => rw [hz] at a5; rw [a5] at h1; simp at h1; omega
  | some z =>
    rw [hz] at a5
    simp only at a5
    cases hs : z.cells.all smallC with
    | false => rw [hs] at a5; rw [a5] at h1; simp at h1; omega
    | true =>
      rw [hs] at a5
      simp only [if_true] at a5
      refine ⟨inf, z, a1, hz, a5, hs, a3.symm, ?_⟩
      rw [a5] at h1
      simpa using h1

/-- Cells and what they stand for. -/
def RelRow (R : C → Value → Prop) (row : List C) (cells : Array Value) : Prop := cells.size = row.length ∧ ∀ (j : Nat) (x : C) (u : Value), row[j]? = some x → cells[j]? = some u → R x u
theorem fill_rel {R : C → Value → Prop} {fld : List (Nat × Nat)} {place : Nat → Option (Nat × Nat)} (hpl : ∀ i p, fld[i]? = some p → place i = some p) :
    ∀ (ps : List (Nat × List C)) (vals : List (Nat × Value)) (row : List C) (cells : Array Value) (row' : List C), F2 (fun p q => p.1 = q.1 ∧ RelRow R p.2 q.2.cells) ps vals → RelRow R row cells →
      buildRow fld row ps = some row' → ∃ cells', Instr.fill place cells vals = some cells' ∧ RelRow R row' cells'
  | [], vals, row, cells, row', hf, hr, hb => by
    cases hf
    simp only [buildRow, Option.some.injEq] at hb
    subst hb
    exact ⟨cells, rfl, hr⟩
  | (i, xs) :: ps, vals, row, cells, row', hf, hr, hb => by
    cases hf with
    | cons h1 h2 =>
      rename_i q vals
      obtain ⟨j, v⟩ := q
      obtain ⟨rfl, hv1, hv2⟩ := h1
      simp only at hv1 hv2
      simp only [buildRow] at hb
      split at hb
      · rename_i off n hfl
        split at hb
        · rename_i hcond
          obtain ⟨c1, c2, c3⟩ := hcond
          simp only [Instr.fill, hpl _ _ hfl]
          have hcs : ¬ (v.cells.size ≠ n ∨ off + v.cells.size > cells.size) := by rw [hv1, hr.1]; omega
          have hcs' : (decide (v.cells.size ≠ n) || decide (off + v.cells.size > cells.size)) = false := by rw [hv1, hr.1]; simp; omega
          obtain ⟨f1, f2⟩ := Go.Great.foldl_set off v.cells.toList 0 cells
          have hz : v.cells.zipIdx.foldl (fun cs (x : Value × Nat) => cs.setIfInBounds (off + x.2) x.1) cells = (v.cells.toList.zipIdx 0).foldl (fun cs (x : Value × Nat) => cs.setIfInBounds (off + x.2) x.1) cells := by
            rw [← Array.toList_zipIdx, Array.foldl_toList]
          rw [if_neg (by simpa using hcs)]
          refine fill_rel hpl ps vals _ _ row' h2 ⟨?_, fun k x u hk hu => ?_⟩ hb
          · show (v.cells.zipIdx.foldl (fun cs (x : Value × Nat) => cs.setIfInBounds (off + x.2) x.1) cells).size = _
            rw [hz, f1, hr.1]
            simp
            omega
          · have hu' : ((v.cells.toList.zipIdx 0).foldl (fun cs (x : Value × Nat) => cs.setIfInBounds (off + x.2) x.1) cells)[k]? = some u := by rw [← hz]; exact hu
            rw [f2 k] at hu'
            rw [List.append_assoc, List.getElem?_append] at hk
            have hlt : (row.take off).length = off := by simp; omega
            rw [hlt] at hk
            by_cases hko : k < off
            · rw [if_pos hko, List.getElem?_take, if_pos hko] at hk
              rw [if_neg (by omega)] at hu'
              exact hr.2 k x u hk hu'
            · rw [if_neg hko, List.getElem?_append] at hk
              by_cases hk2 : k - off < xs.length
              · rw [if_pos hk2] at hk
                rw [if_pos ⟨by omega, by simp; omega, by rw [hr.1]; omega⟩] at hu'
                exact hv2 (k - off) x u hk (by simpa using hu')
              · rw [if_neg hk2, List.getElem?_drop] at hk
                rw [if_neg (by simp; omega)] at hu'
                exact hr.2 k x u (by rw [← hk]; congr 1; omega) hu'
        · cases hb
      · cases hb

theorem rdParts_ok {σ : Sg} : ∀ {ps : List (Nat × Operand)} {f : List (Nat × List C) → Rd Eff}, ((rdParts ps f).run σ).ok → ∃ rs, (rdParts ps f).run σ = (f rs).run σ ∧
    ∀ E a w g, Core E σ (Act.tmps a) w g → LIM ≤ g.lim → (∀ p ∈ ps, okOpd p.2 = true) →
      F2 (fun p q => p.1 = q.1 ∧ RelRow (fun x u => (∃ b, CRep w g σ.dirty b x u) ∧ x.isOwn = false ∧ ∀ r ∈ x.roots, σ.ex r) p.2 q.2.cells) rs (ps.map fun p => (p.1, a.eval p.2))
  | [], f, h => ⟨[], rfl, fun _ _ _ _ _ _ _ => .nil⟩
  | (i, x) :: ps, f, h => by
    simp only [rdParts] at h ⊢
    obtain ⟨row, e1, h1⟩ := rdRow_ok h
    rw [e1] at h ⊢
    obtain ⟨rs, e2, h2⟩ := rdParts_ok h
    refine ⟨(i, row) :: rs, e2, fun E a w g hc hl ho => .cons ⟨rfl, ?_⟩ (h2 E a w g hc hl fun p hp => ho p (by simp [hp]))⟩
    obtain ⟨vs, c1, c2⟩ := h1 E a w g hc hl (ho (i, x) (by simp))
    refine ⟨by rw [c2]; simp, fun j y u hj hu => ?_⟩
    simp only at hj hu
    rw [c2] at hu
    have hlt := lt_of_getElem? hj
    simp [hlt] at hu
    subst hu
    exact c1 j y hj

theorem SVRep.ofRel {w : World} {g : Gh} {d : Dirt} {r : Root} {row : List C} {cells : Array Value} (h : RelRow (fun x u => ∃ b, CRep w g d b x u ∧ x.isOwn = false) row cells) : SVRep w g d r 0 (.agg row) (.agg cells) := by
  have := SVRep.agg (w := w) (g := g) (d := d) (r := r) (n := 0) (row := row) (fun j => cells.getD j undef) (fun j x hj => by
    have hlt := lt_of_getElem? hj
    have hj' : j < cells.size := by rw [h.1]; exact hlt
    have hc : cells[j]? = some (cells.getD j undef) := by simp [Array.getD_eq_getD_getElem?, hj']
    obtain ⟨b, h1, h2⟩ := h.2 j x _ hj hc
    exact h1.repos h2)
  have e : ((List.range row.length).map fun j => cells.getD j undef).toArray = cells := by
    apply Array.ext_getElem?
    intro j
    have h1 := h.1
    by_cases hj : j < row.length
    · have hj' : j < cells.size := by omega
      simp [hj, hj', Array.getD_eq_getD_getElem?]
    · have hj' : cells.size ≤ j := by omega
      simp [hj, hj']
  rw [e] at this
  exact this

section
variable {E : Env} {N : Nat} {o : Oper} {σ : Sg}

theorem zero_rel {w : World} {g : Gh} {d : Dirt} (hl : LIM ≤ g.lim) {z : Value} {zs : List T} (h1 : zs = z.cells.toList.map T.ofV) (h2 : z.cells.all smallC = true) (b : CA) :
    RelRow (fun x u => CRep w g d b x u ∧ x.isOwn = false ∧ x.roots = []) (zs.map C.t) z.cells := by
  subst h1
  refine ⟨by simp, fun j x u hj hu => ?_⟩
  simp only [List.getElem?_map, Option.map_eq_some_iff] at hj
  obtain ⟨t, ⟨v, hv, rfl⟩, rfl⟩ := hj
  have : v = u := by
    have : z.cells[j]? = some v := by simpa using hv
    rw [this] at hu; cases hu; rfl
  subst this
  refine ⟨.t (Rep.ofV hl ?_), T.ofV_notOwn _, rfl⟩
  rw [Array.all_eq_true] at h2
  obtain ⟨hlt, e⟩ := Array.getElem?_eq_some_iff.1 hu
  have := h2 j hlt
  rw [e] at this
  exact this

theorem ok_build (hN : okOper N o = true) {t : TypeId} {parts : Array (Nat × Operand)} (ho : o.op = .build t parts) (h : ((astep E.P o).run σ).ok) : OpOK E N o σ ((astep E.P o).run σ).upd := by
  have hopd : ∀ p ∈ parts.toList, okOpd p.2 = true := fun p hp => okOper_opd hN (by
    rw [ho]
    simp only [Op.operands]
    exact List.mem_toArray.2 (List.mem_map.2 ⟨p, hp, rfl⟩))
  simp only [astep, ho] at h ⊢
  cases hi : tinfo E.P t with
  | none => rw [hi] at h; exact h.elim
  | some i =>
    rw [hi] at h
    simp only at h ⊢
    obtain ⟨rs, e1, hrs⟩ := rdParts_ok h
    rw [e1] at h ⊢
    cases hb : buildRow i.fld (i.zero.map C.t) rs with
    | none => rw [hb] at h; exact h.elim
    | some row =>
      rw [hb] at h
      simp only at h ⊢
      obtain ⟨⟨hf1, hf2, hz1, hz2⟩, _⟩ := put_ok h
      obtain ⟨inf, z, a1, a2, a3, a4, a5, a6⟩ := tinfo_zero hi hz1 hz2
      obtain ⟨inf', d, b1, b2, _, _, _, b6, b7, _⟩ := tinfo_some hi
      have hstr : ∃ fs, d = .struct fs := by
        cases d with
        | struct fs => exact ⟨fs, rfl⟩
        | _ => simp [b7] at hf1
      obtain ⟨fs, rfl⟩ := hstr
      simp only at b7
      refine OpOK.pure hN h rfl fun a w g hc hl => ?_
      have hzr := zero_rel (w := w) (g := g) (d := σ.dirty) hl a3 a4 ⟨.ret, 0, []⟩
      obtain ⟨cells, hfill, hrel⟩ := fill_rel (R := fun x u => (∃ b, CRep w g σ.dirty b x u) ∧ x.isOwn = false ∧ ∀ r ∈ x.roots, σ.ex r) (fld := i.fld) (place := fun k => (i.fld.toArray[k]?)) (fun k p hk => by simpa using hk) rs _ _ z.cells row (hrs E a w g hc hl hopd)
        ⟨hzr.1, fun j x u hj hu => by obtain ⟨q1, q2, q3⟩ := hzr.2 j x u hj hu; exact ⟨⟨_, q1⟩, q2, by rw [q3]; simp⟩⟩ hb
      refine ⟨.agg cells, ?_, fun r => SVRep.ofRel ⟨hrel.1, fun j x u hj hu => by obtain ⟨⟨b, q1⟩, q2, _⟩ := hrel.2 j x u hj hu; exact ⟨b, q1, q2⟩⟩, fun r hq => ?_⟩
      · have hbuilt : E.P.built t (parts.map fun (i, x) => (i, a.eval x)).toList = some cells := by
          have hm : fs.toList.mapM (fun f => (E.P.info? f.type).map fun i => (f.offset, i.size)) = some i.fld := by
            rw [b7] at hf2 ⊢
            simp only [List.all_map, List.all_eq_true] at hf2
            clear hfill hrel hb b7 hf1 b2
            revert hf2
            generalize fs.toList = l
            intro hf2
            induction l with
            | nil => rfl
            | cons f l ih =>
              have h0 := hf2 f (by simp)
              have h1 := ih fun x hx => hf2 x (by simp [hx])
              simp only [List.mapM_cons, h1]
              cases hfi : E.P.info? f.type with
              | none => simp [hfi] at h0
              | some inf => simp [hfi]
          simp only [Program.built, a1, b2, a2, hm]
          rw [Array.toList_map]
          exact hfill
        simp [execOp, ho, run_build w t _ cells hbuilt]
      · simp only [SV.roots] at hq
        obtain ⟨x, hx, hx2⟩ := C.mem_rootsL.1 hq
        obtain ⟨j, hj⟩ := List.getElem?_of_mem hx
        have hlt := lt_of_getElem? hj
        have hlt' : j < cells.size := by rw [hrel.1]; exact hlt
        exact (hrel.2 j x _ hj (Array.getElem?_eq_getElem hlt')).2.2 r hx2
end
end Vx
