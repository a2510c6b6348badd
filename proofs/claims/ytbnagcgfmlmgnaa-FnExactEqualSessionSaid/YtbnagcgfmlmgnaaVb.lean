import Derived.Test.YtbnagcgfmlmgnaaVa
import Derived.Great.FillDense
import Derived.Laws.Tables
import Derived.Great.BuildSlice
/- An abstract machine over data for this translation, part two: each of its steps, its loops and its calls are steps of the program. No condition. -/
namespace Vx
open Go Classical
set_option linter.unusedSimpArgs false
set_option linter.unusedVariables false

def SV.clean1 : SV → Bool
  | .c x => !x.isOwn
  | .agg row => row.all fun x => !x.isOwn
  | .tup _ => false
theorem SVRep.move0 {w : World} {g : Gh} {d : Dirt} {r r' : Root} {n : Nat} {sv : SV} {v : Value} (h : SVRep w g d r n sv v) (hn : sv.clean1 = true) : SVRep w g d r' 0 sv v := by
  cases h with
  | c h => exact .c (h.repos (by simpa [SV.clean1] using hn))
  | agg vs h => exact .agg vs fun j x hj => (h j x hj).repos (by
      simp only [SV.clean1, List.all_eq_true] at hn
      simpa using hn x (List.mem_of_getElem? hj))
  | tup vs h => simp [SV.clean1] at hn
theorem SV.alias1_clean {sv : SV} (h : ∀ l, sv ≠ .tup l) (r : Root) (n : Nat) : (sv.alias1 r n).clean1 = true := by
  cases sv with
  | c x => simp [SV.alias1, SV.clean1, C.alias_isOwn]
  | agg row =>
    simp only [SV.alias1, SV.clean1, List.all_eq_true]
    intro y hy
    obtain ⟨j, hj⟩ := List.getElem?_of_mem hy
    obtain ⟨z, _, e⟩ := aliasFrom_get hj
    rw [e]; simp [C.alias_isOwn]
  | tup l => exact absurd rfl (h l)

theorem rdS_ok2 {σ : Sg} {x : Operand} {f : SV → Rd Eff} (h : ((rdS x f).run σ).ok) : ∃ sv, (rdS x f).run σ = (f sv).run σ ∧ (∀ r ∈ sv.roots, ∀ E tmps w g, Core E σ tmps w g → σ.ex r) ∧
    (∀ E a w g, Core E σ (Act.tmps a) w g → LIM ≤ g.lim → okOpd x = true → ∀ r, SVRep w g σ.dirty r 0 sv (a.eval x)) ∧ (∀ row, sv.row = some row → ∀ y ∈ row, y.isOwn = false) ∧ ∀ E tmps w g, Core E σ tmps w g → ∀ l, sv = .tup l → ∀ x ∈ l, x.clean1 = true := by
  cases x with
  | tmp n =>
    refine ⟨(σ.slot n).alias (σ.rt n), rfl, fun r hr E tmps w g hc => ?_, fun E a w g hc _ _ r => (hc.slots n).alias (hc.flat n) r, fun row hrow y hy => ?_, fun E tmps w g hc l hl x hx => ?_⟩
    · rcases SV.alias_roots _ _ r hr with h | h
      · rw [h]; exact σ.rt_ex n
      · exact hc.liveS n r h
    · cases hs : σ.slot n with
      | c x => rw [hs] at hrow; cases hrow; simp at hy; subst hy; exact C.alias_isOwn _ _
      | agg l =>
        rw [hs] at hrow; cases hrow
        obtain ⟨j, hj⟩ := List.getElem?_of_mem hy
        obtain ⟨z, _, e⟩ := aliasFrom_get hj
        rw [e]; exact C.alias_isOwn _ _
      | tup l => rw [hs] at hrow; cases hrow
    · have hf := hc.flat n
      cases hs : σ.slot n with
      | tup l0 =>
        rw [hs] at hl hf
        cases hl
        obtain ⟨j, hj⟩ := List.getElem?_of_mem hx
        obtain ⟨y, h1, e⟩ := aliasTup_get hj
        rw [e]
        refine SV.alias1_clean (fun l' e' => ?_) _ _
        simp only [SV.flat, List.all_eq_true] at hf
        have := hf y (List.mem_of_getElem? h1)
        rw [e'] at this
        simp at this
      | c x => rw [hs] at hl; cases hl
      | agg row => rw [hs] at hl; cases hl
  | const v =>
    refine ⟨SV.ofV v, rfl, fun r hr => by rw [ofV_roots] at hr; simp at hr, fun E a w g _ hl ho r => SVRep.ofV hl ho, fun row hrow y hy => ?_, fun _ _ _ _ _ l hl => by unfold SV.ofV at hl; split at hl <;> cases hl⟩
    unfold SV.ofV at hrow
    split at hrow
    · cases hrow
      obtain ⟨v, _, rfl⟩ := List.mem_map.1 hy
      exact T.ofV_notOwn v
    · cases hrow
      simp at hy; subst hy
      exact T.ofV_notOwn v
  | func f' =>
    refine ⟨_, rfl, fun r hr => by simp [SV.roots, C.roots, C.rootsL] at hr, fun E a w g _ _ _ r => .c ?_, fun row hrow y hy => by cases hrow; simp at hy; subst hy; rfl, fun _ _ _ _ _ l hl => by cases hl⟩
    have := CRep.clo (w := w) (g := g) (d := σ.dirty) (a := ⟨r, 0, []⟩) (f := f') (caps := []) (fun _ => undef) (by simp) (fun j x hj => by simp at hj)
    simpa [Act.eval] using this
  | global g => exact h.elim

def CellsOK (σ : Sg) (w : World) (g : Gh) (l : List C) (vs : Nat → Value) : Prop :=
  ∀ j x, l[j]? = some x → (∃ a, CRep w g σ.dirty a x (vs j)) ∧ x.isOwn = false ∧ ∀ r ∈ x.roots, σ.ex r
theorem cell_apart (r : Root) {i j : Nat} (h : i ≠ j) (p q : List Hop) : (⟨r, i, p⟩ : CA).apart ⟨r, j, q⟩ := ⟨fun e => h e.2.1, fun e => h e.2.1.symm⟩
theorem upds_append (σ : Sg) (us vs : List Upd) : σ.upds (us ++ vs) = (σ.upds us).upds vs := by simp [Sg.upds]

section
variable {E : Env} {N : Nat} {o : Oper} {σ : Sg}

theorem TkL.at_root {tmps : Array Value} {w : World} {g : Gh} {l l' : List C} {us : List Upd} (ht : TkL σ l l' us) (hc : Core E σ tmps w g) (hd : distinct (keysOf us) = true) {r : Root} (hr : ¬ σ.ex r) {vs : Nat → Value} (hl : CellsOK σ w g l vs) :
    ∃ g', Took E tmps w σ (σ.upds us) g g' (fun j => ⟨r, j, []⟩) l.length ∧ ∀ j x, l'[j]? = some x → CRep w g' σ.dirty ⟨r, j, []⟩ x (vs j) :=
  ht.core σ g hc rfl rfl (fun _ _ _ _ h => h) hd (fun j => ⟨r, j, []⟩) vs (fun _ => hr) (fun i j h _ => cell_apart r (by omega) _ _) hl

theorem dst_lt (hN : okOper N o = true) {d : Nat} (hd : o.dst = some d) : d < N := by
  unfold okOper at hN
  rw [hd] at hN
  simp at hN
  exact hN.1

/-- An operation whose result is made of what its operands hold or had. -/
theorem OpOK.took (hN : okOper N o = true) {x : SV} {us ups : List Upd} {ok : Prop} {l l' : List C} (hok : ((Vx.put o x us ok).run σ).ok) (ht : TkL σ l l' us) (hups : ups = ((Vx.put o x us ok).run σ).upd)
    (hfl : x.flat = true) (hx : ∀ r ∈ x.roots, ∃ y ∈ l', r ∈ y.roots)
    (h : ∀ (a : Act) w g, Core E σ a.tmps w g → LIM ≤ g.lim → ∃ v vs, (execOp a.eval o).run E.P w = .ok (.value v) w ∧ CellsOK σ w g l vs ∧
      ∀ g' r, (∀ j y, l'[j]? = some y → CRep w g' σ.dirty ⟨r, j, []⟩ y (vs j)) → SVRep w g' σ.dirty r 0 x v) : OpOK E N o σ ups := by
  intro a w g hc hs hl K Q hK
  obtain ⟨v, vs, he, hcells, hsv⟩ := h a w g hc hl
  unfold Oper.wp
  rw [he, Oper.upon_value]
  obtain ⟨h1, h2, h3⟩ := put_ok hok
  cases hd : o.dst with
  | none =>
    obtain ⟨e, hdi⟩ := h3 hd
    obtain ⟨g', tk, _⟩ := ht.at_root hc hdi (r := .ret) (fun h => h) hcells
    refine hK _ w g' ?_ tk.move hs rfl
    rw [hups, e]
    exact tk.core
  | some d =>
    obtain ⟨hn, e, hdi⟩ := h2 d hd
    obtain ⟨g', tk, hr⟩ := ht.at_root hc (distinct_left hdi) (r := .new d) (fun h => by simp [Sg.ex, hn] at h) hcells
    refine hK _ w g' ?_ tk.move (by simpa [Act.put] using hs) rfl
    rw [hups, e, upds_append]
    refine tk.core.put (by rw [tk.isnew]; exact hn) ?_ (fun r hr => ?_) hfl (.inl (by rw [hs]; exact dst_lt hN hd))
    · rw [tk.dirty]; exact hsv g' _ hr
    · rw [tk.ex]
      obtain ⟨y, hy1, hy2⟩ := hx r hr
      obtain ⟨z, hz1, hz2⟩ := ht.roots y hy1 r hy2
      obtain ⟨j, hj⟩ := List.getElem?_of_mem hz1
      exact (hcells j z hj).2.2 r hz2

theorem ok_assign (hN : okOper N o = true) {x : Operand} (ho : o.op = .assign x) (h : ((astep E.P o).run σ).ok) : OpOK E N o σ ((astep E.P o).run σ).upd := by
  have hopd : okOpd x = true := okOper_opd hN (by rw [ho]; simp [Op.operands])
  simp only [astep, ho] at h ⊢
  obtain ⟨sv, e1, hr, e2, e3, _⟩ := rdS_ok2 h
  rw [e1] at h ⊢
  cases sv with
  | c x0 =>
    simp only at h ⊢
    obtain ⟨l', us, ht, e⟩ := moveL_ok h
    rw [e] at h ⊢
    rcases l' with _ | ⟨y, _ | ⟨z, l'⟩⟩
    · exact h.elim
    · simp only at h ⊢
      refine OpOK.took hN h ht rfl rfl (fun r hr => ⟨y, by simp, hr⟩) fun a w g hc hl => ⟨a.eval x, fun _ => a.eval x, by simp [execOp, ho], fun j u hj => ?_, fun g' r hc' => .c (hc' 0 y rfl)⟩
      cases j with
      | zero =>
        simp at hj
        subst hj
        have hx := e2 E a w g hc hl hopd .ret
        cases hx with | c hx => exact ⟨⟨_, hx⟩, e3 _ rfl _ (by simp), fun r hq => hr r hq _ _ _ _ hc⟩
      | succ j => simp at hj
    · exact h.elim
  | agg row =>
    simp only at h ⊢
    obtain ⟨l', us, ht, e⟩ := moveL_ok h
    rw [e] at h ⊢
    refine OpOK.took hN h ht rfl rfl (fun r hr => by simp only [SV.roots] at hr; exact C.mem_rootsL.1 hr) fun a w g hc hl => ?_
    have hx := e2 E a w g hc hl hopd .ret
    revert hx
    generalize hv : a.eval x = v
    intro hx
    cases hx with
    | agg vs hx =>
      refine ⟨.agg ((List.range row.length).map vs).toArray, vs, by simp [execOp, ho, hv], fun j u hj => ⟨⟨_, hx j u hj⟩, e3 _ rfl _ (List.mem_of_getElem? hj), fun r hq => hr r (by simp only [SV.roots]; exact C.mem_rootsL.2 ⟨u, List.mem_of_getElem? hj, hq⟩) _ _ _ _ hc⟩, fun g' r hc' => ?_⟩
      rw [← ht.length]
      exact .agg vs fun j u hj => by rw [Nat.zero_add]; exact hc' j u hj
  | tup l => exact h.elim

theorem ok_extract (hN : okOper N o = true) {x : Operand} {i : Nat} (ho : o.op = .extract x i) (h : ((astep E.P o).run σ).ok) : OpOK E N o σ ((astep E.P o).run σ).upd := by
  have hopd : okOpd x = true := okOper_opd hN (by rw [ho]; simp [Op.operands])
  simp only [astep, ho] at h ⊢
  obtain ⟨sv, e1, hr, e2, _, e4⟩ := rdS_ok2 h
  rw [e1] at h ⊢
  cases sv with
  | tup l =>
    simp only at h ⊢
    cases hi : l[i]? with
    | none => rw [hi] at h; exact h.elim
    | some y =>
      rw [hi] at h
      simp only at h ⊢
      obtain ⟨hrow, _⟩ := put_ok h
      refine OpOK.pure hN h rfl (fun a w g hc hl => ?_) (SV.flat_row hrow)
      have hlt := lt_of_getElem? hi
      obtain ⟨vs, hvs⟩ : ∃ vs : Nat → Value, a.eval x = .tuple ((List.range l.length).map vs).toArray := by
        have hx := e2 E a w g hc hl hopd .ret
        revert hx
        generalize a.eval x = v
        intro hx
        cases hx with | tup vs _ => exact ⟨vs, rfl⟩
      refine ⟨vs i, ?_, fun r => ?_, fun r hq => hr r (by simp only [SV.roots]; exact SV.mem_rootsL.2 ⟨y, List.mem_of_getElem? hi, hq⟩) _ _ _ _ hc⟩
      · simp [execOp, ho, hvs, Instr.extract, hlt]
      · have hcl := e4 _ _ _ _ hc l rfl y (List.mem_of_getElem? hi)
        have hx := e2 E a w g hc hl hopd r
        rw [hvs] at hx
        generalize hgen : ((List.range l.length).map vs).toArray = arr at hx
        cases hx with
        | tup us hx =>
          have := hx i y hi
          have he : us i = vs i := by
            have := congrArg (fun z => z[i]?) hgen
            simp [hlt] at this
            exact this.symm
          rw [he] at this
          exact this.move0 hcl
  | _ => exact h.elim
end
end Vx

namespace Vx
open Go Classical
set_option linter.unusedSimpArgs false
set_option linter.unusedVariables false

inductive F2 {α β : Type} (R : α → β → Prop) : List α → List β → Prop where
  | nil : F2 R [] []
  | cons {a b l m} (h : R a b) (t : F2 R l m) : F2 R (a :: l) (b :: m)
theorem F2.mono {α β : Type} {R S : α → β → Prop} {l : List α} {m : List β} (h : F2 R l m) (hs : ∀ a b, R a b → S a b) : F2 S l m := by
  induction h with
  | nil => exact .nil
  | cons h t ih => exact .cons (hs _ _ h) ih

theorem rdRow_ok {σ : Sg} {x : Operand} {f : List C → Rd Eff} (h : ((rdRow x f).run σ).ok) : ∃ row, (rdRow x f).run σ = (f row).run σ ∧
    ∀ E a w g, Core E σ (Act.tmps a) w g → LIM ≤ g.lim → okOpd x = true → ∃ vs, CellsOK σ w g row vs ∧ (a.eval x).cells = ((List.range row.length).map vs).toArray := by
  unfold rdRow at h ⊢
  obtain ⟨sv, e1, hr, e2, e3, _⟩ := rdS_ok2 h
  rw [e1] at h ⊢
  cases sv with
  | c y =>
    simp only at h ⊢
    by_cases ho : y.one = true
    · rw [if_pos ho] at h ⊢
      refine ⟨[y], rfl, fun E a w g hc hl hopd => ?_⟩
      have hx := e2 E a w g hc hl hopd .ret
      obtain ⟨vs, h1, h2⟩ := hx.cells rfl (fun z hz => by cases hz; cases hx with | c hx => exact hx.one ho)
      exact ⟨vs, fun j z hj => ⟨⟨_, h1 j z hj⟩, e3 _ rfl z (List.mem_of_getElem? hj), fun r hq => hr r (by
        have := List.mem_of_getElem? hj
        simp at this; subst this; exact hq) _ _ _ _ hc⟩, h2⟩
    · rw [if_neg ho] at h; exact h.elim
  | agg row =>
    simp only at h ⊢
    refine ⟨row, rfl, fun E a w g hc hl hopd => ?_⟩
    have hx := e2 E a w g hc hl hopd .ret
    obtain ⟨vs, h1, h2⟩ := hx.cells rfl (fun z hz => by cases hz)
    exact ⟨vs, fun j z hj => ⟨⟨_, h1 j z hj⟩, e3 _ rfl z (List.mem_of_getElem? hj), fun r hq => hr r (by simp only [SV.roots]; exact C.mem_rootsL.2 ⟨z, List.mem_of_getElem? hj, hq⟩) _ _ _ _ hc⟩, h2⟩
  | tup l => exact h.elim

theorem tinfo_zero {P : Program} {t : TypeId} {i : TI} (h : tinfo P t = some i) (h1 : i.zero.length = i.size) (h2 : 0 < i.size) : ∃ inf z, P.info? t = some inf ∧ inf.zero = some z ∧ i.zero = z.cells.toList.map T.ofV ∧ z.cells.all smallC = true ∧ inf.size = i.size ∧ z.cells.size = i.size := by
  obtain ⟨inf, d, a1, a2, a3, _, a5, _⟩ := tinfo_some h
  cases hz : inf.zero with
  | none => rw [hz] at a5; rw [a5] at h1; simp at h1; omega
  | some z =>
    rw [hz] at a5
    simp only at a5
    cases hs : z.cells.all smallC with
    | false => rw [hs] at a5; rw [a5] at h1; simp at h1; omega
    | true =>
      rw [hs] at a5
      simp only [if_true] at a5
      refine ⟨inf, z, a1, hz, a5, hs, a3.symm, ?_⟩
      rw [a5] at h1
      simpa using h1

/-- Cells and what they stand for. -/
def RelRow (R : C → Value → Prop) (row : List C) (cells : Array Value) : Prop := cells.size = row.length ∧ ∀ (j : Nat) (x : C) (u : Value), row[j]? = some x → cells[j]? = some u → R x u
theorem fill_rel {R : C → Value → Prop} {fld : List (Nat × Nat)} {place : Nat → Option (Nat × Nat)} (hpl : ∀ i p, fld[i]? = some p → place i = some p) :
    ∀ (ps : List (Nat × List C)) (vals : List (Nat × Value)) (row : List C) (cells : Array Value) (row' : List C), F2 (fun p q => p.1 = q.1 ∧ RelRow R p.2 q.2.cells) ps vals → RelRow R row cells →
      buildRow fld row ps = some row' → ∃ cells', Instr.fill place cells vals = some cells' ∧ RelRow R row' cells'
  | [], vals, row, cells, row', hf, hr, hb => by
    cases hf
    simp only [buildRow, Option.some.injEq] at hb
    subst hb
    exact ⟨cells, rfl, hr⟩
  | (i, xs) :: ps, vals, row, cells, row', hf, hr, hb => by
    cases hf with
    | cons h1 h2 =>
      rename_i q vals
      obtain ⟨j, v⟩ := q
      obtain ⟨rfl, hv1, hv2⟩ := h1
      simp only at hv1 hv2
      simp only [buildRow] at hb
      split at hb
      · rename_i off n hfl
        split at hb
        · rename_i hcond
          obtain ⟨c1, c2, c3⟩ := hcond
          simp only [Instr.fill, hpl _ _ hfl]
          have hcs : ¬ (v.cells.size ≠ n ∨ off + v.cells.size > cells.size) := by rw [hv1, hr.1]; omega
          have hcs' : (decide (v.cells.size ≠ n) || decide (off + v.cells.size > cells.size)) = false := by rw [hv1, hr.1]; simp; omega
          obtain ⟨f1, f2⟩ := Go.Great.foldl_set off v.cells.toList 0 cells
          have hz : v.cells.zipIdx.foldl (fun cs (x : Value × Nat) => cs.setIfInBounds (off + x.2) x.1) cells = (v.cells.toList.zipIdx 0).foldl (fun cs (x : Value × Nat) => cs.setIfInBounds (off + x.2) x.1) cells := by
            rw [← Array.toList_zipIdx, Array.foldl_toList]
          rw [if_neg (by simpa using hcs)]
          refine fill_rel hpl ps vals _ _ row' h2 ⟨?_, fun k x u hk hu => ?_⟩ hb
          · show (v.cells.zipIdx.foldl (fun cs (x : Value × Nat) => cs.setIfInBounds (off + x.2) x.1) cells).size = _
            rw [hz, f1, hr.1]
            simp
            omega
          · have hu' : ((v.cells.toList.zipIdx 0).foldl (fun cs (x : Value × Nat) => cs.setIfInBounds (off + x.2) x.1) cells)[k]? = some u := by rw [← hz]; exact hu
            rw [f2 k] at hu'
            rw [List.append_assoc, List.getElem?_append] at hk
            have hlt : (row.take off).length = off := by simp; omega
            rw [hlt] at hk
            by_cases hko : k < off
            · rw [if_pos hko, List.getElem?_take, if_pos hko] at hk
              rw [if_neg (by omega)] at hu'
              exact hr.2 k x u hk hu'
            · rw [if_neg hko, List.getElem?_append] at hk
              by_cases hk2 : k - off < xs.length
              · rw [if_pos hk2] at hk
                rw [if_pos ⟨by omega, by simp; omega, by rw [hr.1]; omega⟩] at hu'
                exact hv2 (k - off) x u hk (by simpa using hu')
              · rw [if_neg hk2, List.getElem?_drop] at hk
                rw [if_neg (by simp; omega)] at hu'
                exact hr.2 k x u (by rw [← hk]; congr 1; omega) hu'
        · cases hb
      · cases hb

theorem rdParts_ok {σ : Sg} : ∀ {ps : List (Nat × Operand)} {f : List (Nat × List C) → Rd Eff}, ((rdParts ps f).run σ).ok → ∃ rs, (rdParts ps f).run σ = (f rs).run σ ∧
    ∀ E a w g, Core E σ (Act.tmps a) w g → LIM ≤ g.lim → (∀ p ∈ ps, okOpd p.2 = true) →
      F2 (fun p q => p.1 = q.1 ∧ RelRow (fun x u => (∃ b, CRep w g σ.dirty b x u) ∧ x.isOwn = false ∧ ∀ r ∈ x.roots, σ.ex r) p.2 q.2.cells) rs (ps.map fun p => (p.1, a.eval p.2))
  | [], f, h => ⟨[], rfl, fun _ _ _ _ _ _ _ => .nil⟩
  | (i, x) :: ps, f, h => by
    simp only [rdParts] at h ⊢
    obtain ⟨row, e1, h1⟩ := rdRow_ok h
    rw [e1] at h ⊢
    obtain ⟨rs, e2, h2⟩ := rdParts_ok h
    refine ⟨(i, row) :: rs, e2, fun E a w g hc hl ho => .cons ⟨rfl, ?_⟩ (h2 E a w g hc hl fun p hp => ho p (by simp [hp]))⟩
    obtain ⟨vs, c1, c2⟩ := h1 E a w g hc hl (ho (i, x) (by simp))
    refine ⟨by rw [c2]; simp, fun j y u hj hu => ?_⟩
    simp only at hj hu
    rw [c2] at hu
    have hlt := lt_of_getElem? hj
    simp [hlt] at hu
    subst hu
    exact c1 j y hj

theorem SVRep.ofRel {w : World} {g : Gh} {d : Dirt} {r : Root} {row : List C} {cells : Array Value} (h : RelRow (fun x u => ∃ b, CRep w g d b x u ∧ x.isOwn = false) row cells) : SVRep w g d r 0 (.agg row) (.agg cells) := by
  have := SVRep.agg (w := w) (g := g) (d := d) (r := r) (n := 0) (row := row) (fun j => cells.getD j undef) (fun j x hj => by
    have hlt := lt_of_getElem? hj
    have hj' : j < cells.size := by rw [h.1]; exact hlt
    have hc : cells[j]? = some (cells.getD j undef) := by simp [Array.getD_eq_getD_getElem?, hj']
    obtain ⟨b, h1, h2⟩ := h.2 j x _ hj hc
    exact h1.repos h2)
  have e : ((List.range row.length).map fun j => cells.getD j undef).toArray = cells := by
    apply Array.ext_getElem?
    intro j
    have h1 := h.1
    by_cases hj : j < row.length
    · have hj' : j < cells.size := by omega
      simp [hj, hj', Array.getD_eq_getD_getElem?]
    · have hj' : cells.size ≤ j := by omega
      simp [hj, hj']
  rw [e] at this
  exact this

section
variable {E : Env} {N : Nat} {o : Oper} {σ : Sg}

theorem zero_rel {w : World} {g : Gh} {d : Dirt} (hl : LIM ≤ g.lim) {z : Value} {zs : List T} (h1 : zs = z.cells.toList.map T.ofV) (h2 : z.cells.all smallC = true) (b : CA) :
    RelRow (fun x u => CRep w g d b x u ∧ x.isOwn = false ∧ x.roots = []) (zs.map C.t) z.cells := by
  subst h1
  refine ⟨by simp, fun j x u hj hu => ?_⟩
  simp only [List.getElem?_map, Option.map_eq_some_iff] at hj
  obtain ⟨t, ⟨v, hv, rfl⟩, rfl⟩ := hj
  have : v = u := by
    have : z.cells[j]? = some v := by simpa using hv
    rw [this] at hu; cases hu; rfl
  subst this
  refine ⟨.t (Rep.ofV hl ?_), T.ofV_notOwn _, rfl⟩
  rw [Array.all_eq_true] at h2
  obtain ⟨hlt, e⟩ := Array.getElem?_eq_some_iff.1 hu
  have := h2 j hlt
  rw [e] at this
  exact this

theorem ok_build (hN : okOper N o = true) {t : TypeId} {parts : Array (Nat × Operand)} (ho : o.op = .build t parts) (h : ((astep E.P o).run σ).ok) : OpOK E N o σ ((astep E.P o).run σ).upd := by
  have hopd : ∀ p ∈ parts.toList, okOpd p.2 = true := fun p hp => okOper_opd hN (by
    rw [ho]
    simp only [Op.operands]
    exact List.mem_toArray.2 (List.mem_map.2 ⟨p, hp, rfl⟩))
  simp only [astep, ho] at h ⊢
  cases hi : tinfo E.P t with
  | none => rw [hi] at h; exact h.elim
  | some i =>
    rw [hi] at h
    simp only at h ⊢
    obtain ⟨rs, e1, hrs⟩ := rdParts_ok h
    rw [e1] at h ⊢
    cases hb : buildRow i.fld (i.zero.map C.t) rs with
    | none => rw [hb] at h; exact h.elim
    | some row =>
      rw [hb] at h
      simp only at h ⊢
      obtain ⟨⟨hf1, hf2, hz1, hz2⟩, _⟩ := put_ok h
      obtain ⟨inf, z, a1, a2, a3, a4, a5, a6⟩ := tinfo_zero hi hz1 hz2
      obtain ⟨inf', d, b1, b2, _, _, _, b6, b7, _⟩ := tinfo_some hi
      have hstr : ∃ fs, d = .struct fs := by
        cases d with
        | struct fs => exact ⟨fs, rfl⟩
        | _ => simp [b7] at hf1
      obtain ⟨fs, rfl⟩ := hstr
      simp only at b7
      refine OpOK.pure hN h rfl fun a w g hc hl => ?_
      have hzr := zero_rel (w := w) (g := g) (d := σ.dirty) hl a3 a4 ⟨.ret, 0, []⟩
      obtain ⟨cells, hfill, hrel⟩ := fill_rel (R := fun x u => (∃ b, CRep w g σ.dirty b x u) ∧ x.isOwn = false ∧ ∀ r ∈ x.roots, σ.ex r) (fld := i.fld) (place := fun k => (i.fld.toArray[k]?)) (fun k p hk => by simpa using hk) rs _ _ z.cells row (hrs E a w g hc hl hopd)
        ⟨hzr.1, fun j x u hj hu => by obtain ⟨q1, q2, q3⟩ := hzr.2 j x u hj hu; exact ⟨⟨_, q1⟩, q2, by rw [q3]; simp⟩⟩ hb
      refine ⟨.agg cells, ?_, fun r => SVRep.ofRel ⟨hrel.1, fun j x u hj hu => by obtain ⟨⟨b, q1⟩, q2, _⟩ := hrel.2 j x u hj hu; exact ⟨b, q1, q2⟩⟩, fun r hq => ?_⟩
      · have hbuilt : E.P.built t (parts.map fun (i, x) => (i, a.eval x)).toList = some cells := by
          have hm : fs.toList.mapM (fun f => (E.P.info? f.type).map fun i => (f.offset, i.size)) = some i.fld := by
            rw [b7] at hf2 ⊢
            simp only [List.all_map, List.all_eq_true] at hf2
            clear hfill hrel hb b7 hf1 b2
            revert hf2
            generalize fs.toList = l
            intro hf2
            induction l with
            | nil => rfl
            | cons f l ih =>
              have h0 := hf2 f (by simp)
              have h1 := ih fun x hx => hf2 x (by simp [hx])
              simp only [List.mapM_cons, h1]
              cases hfi : E.P.info? f.type with
              | none => simp [hfi] at h0
              | some inf => simp [hfi]
          simp only [Program.built, a1, b2, a2, hm]
          rw [Array.toList_map]
          exact hfill
        simp [execOp, ho, run_build w t _ cells hbuilt]
      · simp only [SV.roots] at hq
        obtain ⟨x, hx, hx2⟩ := C.mem_rootsL.1 hq
        obtain ⟨j, hj⟩ := List.getElem?_of_mem hx
        have hlt := lt_of_getElem? hj
        have hlt' : j < cells.size := by rw [hrel.1]; exact hlt
        exact (hrel.2 j x _ hj (Array.getElem?_eq_getElem hlt')).2.2 r hx2
end
end Vx

namespace Vx
open Go Classical
set_option linter.unusedSimpArgs false
set_option linter.unusedVariables false

/-! ## Renaming places -/
structure Ren where
  S : CA → Prop
  D : CA → Prop
  f : CA → CA
  fi : CA → CA
  inv : ∀ a, S a → D (f a) ∧ fi (f a) = a
  hop : ∀ a, S a → ∀ h, S (a.hop h) ∧ f (a.hop h) = (f a).hop h
noncomputable def Gh.ren (g : Gh) (R : Ren) : Gh :=
  { g with
    ow := fun b => match g.ow b with
      | .own a => if R.S a then .own (R.f a) else if R.D a then .other else .own a
      | t => t
    hd := fun a => if R.D a then g.hd (R.fi a) else g.hd a }
theorem Ren.under (R : Ren) {a p : CA} (h : a.under p) (hp : R.S p) : R.S a := by
  obtain ⟨h1, h2, s, h3⟩ := h
  have : ∀ (s : List Hop) (a : CA), a.root = p.root → a.c = p.c → a.path = s ++ p.path → R.S a := by
    intro s
    induction s with
    | nil =>
      intro a h1 h2 h3
      have : a = p := by cases a; cases p; simp_all
      rw [this]; exact hp
    | cons x s ih =>
      intro a h1 h2 h3
      have : a = (⟨a.root, a.c, s ++ p.path⟩ : CA).hop x := by cases a; simp_all [CA.hop]
      rw [this]
      exact (R.hop _ (ih ⟨a.root, a.c, s ++ p.path⟩ h1 h2 rfl) x).1
  exact this s a h1 h2 h3
section
variable {w w' : World} {g : Gh} {R : Ren}
/-- What is frozen or owned stays in memory. -/
def Mem (w w' : World) (g : Gh) : Prop := ∀ b, b < w.heap.size → (g.ow b = .frozen ∨ ∃ a, g.ow b = .own a) → w'.heap[b]? = w.heap[b]?
theorem Mem.refl (w : World) (g : Gh) : Mem w w g := fun _ _ _ => rfl
theorem Gh.ren_fz {b : Nat} (h : g.ow b = .frozen) : (g.ren R).ow b = .frozen := by simp [Gh.ren, h]
theorem Gh.ren_other {b : Nat} (h : g.ow b = .other) : (g.ren R).ow b = .other := by simp [Gh.ren, h]
theorem Gh.ren_box {b k : Nat} (h : g.ow b = .box k) : (g.ren R).ow b = .box k := by simp [Gh.ren, h]
theorem Gh.ren_hd {a : CA} (h : ¬ R.D a) : (g.ren R).hd a = g.hd a := by
  show (if _ then _ else _) = _
  rw [if_neg h]
theorem Rep.ren {p : CA} {t : T} {v : Value} (h : Rep w g p t v) (hm : Mem w w' g) (hp : R.S p) : Rep w' (g.ren R) (R.f p) t v :=
  Rep.map (w' := w') (g' := g.ren R) R.f h (Nat.le_refl _) (fun a' ha s => (R.hop a' (R.under ha hp) s).2)
    (fun b hlt hb => ⟨Gh.ren_fz hb, hm b hlt (.inl hb)⟩) (fun b a' hlt ha hb => ⟨by simp [Gh.ren, hb, R.under ha hp], hm b hlt (.inr ⟨_, hb⟩)⟩)
    (fun a' ha => by
      obtain ⟨h1, h2⟩ := R.inv a' (R.under ha hp)
      show (if R.D (R.f a') then g.hd (R.fi (R.f a')) else g.hd (R.f a')) = g.hd a'
      rw [if_pos h1, h2])
theorem Gh.ren_still (hm : Mem w w' g) {r : Root} {c : Nat} (hS : ∀ p, ¬ R.S ⟨r, c, p⟩) (hD : ∀ p, ¬ R.D ⟨r, c, p⟩) : Still w w' g (g.ren R) r c := by
  refine ⟨fun b s hlt ho => ⟨?_, hm b hlt (.inr ⟨_, ho⟩)⟩, fun s => Gh.ren_hd (hD s)⟩
  simp only [Gh.ren, ho]
  rw [if_neg (hS s), if_neg (hD s)]
theorem FRep.ren {t : T} {v : Value} (h : FRep w g t v) (hm : Mem w w' g) : FRep w' (g.ren R) t v :=
  h.frame (Nat.le_refl _) fun b hb ho => ⟨Gh.ren_fz ho, hm b hb (.inl ho)⟩
end

/-! ## Cells stored into a box -/
/-- From the scratch root into the cells `c, c + 1, ..` of the box `k`: those of `row` that own. -/
def boxRen (k c : Nat) (row : List C) : Ren where
  S a := a.root = .ret ∧ ∃ x, row[a.c]? = some x ∧ x.isOwn = true
  D a := a.root = .obj k ∧ c ≤ a.c ∧ ∃ x, row[a.c - c]? = some x ∧ x.isOwn = true
  f a := ⟨.obj k, c + a.c, a.path⟩
  fi a := ⟨.ret, a.c - c, a.path⟩
  inv := by
    rintro ⟨r, j, p⟩ ⟨h1, x, h2, h3⟩
    simp only at h1 h2
    subst h1
    refine ⟨⟨rfl, Nat.le_add_right _ _, x, ?_, h3⟩, ?_⟩
    · simp only [Nat.add_sub_cancel_left]; exact h2
    · simp
  hop := by
    rintro ⟨r, j, p⟩ h1 h
    exact ⟨h1, rfl⟩

structure BoxUpd (σ σ' : Sg) (k c : Nat) (row : List C) : Prop where
  slot : σ'.slot = σ.slot
  isnew : σ'.isnew = σ.isnew
  kind : σ'.kind = σ.kind
  mp : σ'.mp = σ.mp
  cell : ∀ i j, σ'.cell i j = if i = k ∧ c ≤ j ∧ j < c + row.length then row.getD (j - c) (.t .top) else σ.cell i j
  dirty : ∀ r j, σ'.dirty r j = true ↔ (σ.dirty r j = true ∨ (r = .obj k ∧ c ≤ j ∧ ∃ x, row[j - c]? = some x ∧ x.isOwn = true))
theorem boxUpd {m : Nat} : ∀ (row : List C) (σ : Sg) (k c : Nat), σ.kind k = some (.box m) → c + row.length ≤ m → BoxUpd σ (σ.upds (storeCells' k c row)) k c row
  | [], σ, k, c, hk, hc => ⟨rfl, rfl, rfl, rfl, fun i j => by rw [if_neg (by simp only [List.length_nil]; omega)]; rfl, fun r j => by simp [Sg.upds, storeCells']⟩
  | x :: row, σ, k, c, hk, hc => by
    simp only [List.length_cons] at hc
    have hin : σ.inr k c = true := by simp [Sg.inr, hk, inrK]; omega
    have e : σ.upds (storeCells' k c (x :: row)) = (((σ.upd (.cell k c x)).upds (if x.isOwn then [.dirtC k c] else [])).upds (storeCells' k (c + 1) row)) := by
      simp only [storeCells', Sg.upds, List.foldl_cons, List.foldl_append]
    rw [e]
    have hb : BoxUpd σ ((σ.upd (.cell k c x)).upds (if x.isOwn then [.dirtC k c] else [])) k c [x] := by
      refine ⟨?_, ?_, ?_, ?_, fun i j => ?_, fun r j => ?_⟩
      · split <;> rfl
      · split <;> rfl
      · split <;> rfl
      · split <;> rfl
      · have : ((σ.upd (.cell k c x)).upds (if x.isOwn then [.dirtC k c] else [])).cell i j = (σ.upd (.cell k c x)).cell i j := by split <;> rfl
        rw [this]
        simp only [Sg.upd, Sg.setP, hin, and_true, List.length_singleton]
        by_cases e : i = k ∧ j = c
        · obtain ⟨rfl, rfl⟩ := e
          simp
        · rw [if_neg e, if_neg (by omega)]
      · by_cases ho : x.isOwn = true
        · simp only [if_pos ho, Sg.upds, List.foldl_cons, List.foldl_nil, Sg.upd, Sg.setP_dirty]
          by_cases e : r = .obj k ∧ j = c
          · rw [if_pos e]
            obtain ⟨rfl, rfl⟩ := e
            simp [ho]
          · rw [if_neg e]
            constructor
            · exact .inl
            · rintro (h | ⟨h1, h2, y, h3, _⟩)
              · exact h
              · have := lt_of_getElem? h3
                simp at this
                exact absurd ⟨h1, by omega⟩ e
        · simp only [if_neg ho, Sg.upds, List.foldl_nil, Sg.upd, Sg.setP_dirty]
          constructor
          · exact .inl
          · rintro (h | ⟨h1, h2, y, h3, h4⟩)
            · exact h
            · have := lt_of_getElem? h3
              simp at this
              have : j - c = 0 := by omega
              rw [this] at h3
              simp at h3
              subst h3
              exact absurd h4 ho
    have ih := boxUpd row ((σ.upd (.cell k c x)).upds (if x.isOwn then [.dirtC k c] else [])) k (c + 1) (by rw [hb.kind]; exact hk) (by omega)
    refine ⟨ih.slot.trans hb.slot, ih.isnew.trans hb.isnew, ih.kind.trans hb.kind, ih.mp.trans hb.mp, fun i j => ?_, fun r j => ?_⟩
    · rw [ih.cell, hb.cell]
      simp only [List.length_cons, List.length_singleton]
      by_cases h1 : i = k ∧ c + 1 ≤ j ∧ j < c + 1 + row.length
      · rw [if_pos h1, if_pos (by omega), show j - c = (j - (c + 1)) + 1 by omega]
        rfl
      · rw [if_neg h1]
        by_cases h2 : i = k ∧ c ≤ j ∧ j < c + 1
        · rw [if_pos (by simpa using h2), if_pos (by omega), show j - c = 0 by omega]
          rfl
        · rw [if_neg (by simpa using h2), if_neg (by omega)]
    · rw [ih.dirty, hb.dirty]
      constructor
      · rintro ((h | ⟨h1, h2, y, h3, h4⟩) | ⟨h1, h2, y, h3, h4⟩)
        · exact .inl h
        · have := lt_of_getElem? h3
          simp at this
          exact .inr ⟨h1, h2, y, by rw [show j - c = 0 by omega] at h3 ⊢; simpa using h3, h4⟩
        · exact .inr ⟨h1, by omega, y, by rw [show j - c = (j - (c + 1)) + 1 by omega]; simpa using h3, h4⟩
      · rintro (h | ⟨h1, h2, y, h3, h4⟩)
        · exact .inl (.inl h)
        · by_cases e : j = c
          · subst e
            exact .inl (.inr ⟨h1, h2, y, by simpa using h3, h4⟩)
          · exact .inr ⟨h1, by omega, y, by rw [show j - c = (j - (c + 1)) + 1 by omega] at h3; simpa using h3, h4⟩

theorem Core.storeCells {E : Env} {σ : Sg} {tmps : Array Value} {w : World} {g : Gh} (hc : Core E σ tmps w g) {k m c : Nat} (hk : σ.kind k = some (.box m)) {row : List C} (hcm : c + row.length ≤ m) {vs : Nat → Value}
    (hrow : ∀ j x, row[j]? = some x → CRep w g σ.dirty ⟨.ret, j, []⟩ x (vs j)) (hroots : ∀ x ∈ row, ∀ r ∈ x.roots, σ.ex r) {cs : Array Value} {el : TypeId} (hh : w.heap[(g.bl k).1]? = some (.cells cs el (0, 0)))
    {cs' : Array Value} (hcs : cs' = (cs.toList.take ((g.bl k).2.1 + c) ++ (List.range row.length).map vs ++ cs.toList.drop ((g.bl k).2.1 + c + row.length)).toArray) :
    Core E (σ.upds (storeCells' k c row)) tmps (w.setRow (g.bl k).1 cs') (g.ren (boxRen k c row)) ∧ Move w g (w.setRow (g.bl k).1 cs') (g.ren (boxRen k c row)) := by
  have hu := boxUpd row σ k c hk hcm
  generalize hσ : σ.upds (storeCells' k c row) = σ' at hu ⊢
  obtain ⟨cs0, el0, b1, b2, b3, b4, b5⟩ := hc.objs k _ hk
  rw [hh] at b1
  cases b1
  have hexk : σ.ex (.obj k) := .inr (.inl (by rw [hk]; simp))
  have hm : Mem w (w.setRow (g.bl k).1 cs') g := fun b _ hb => setRow_other w _ b _ (fun e => by
    subst e
    rw [b2] at hb
    rcases hb with h | ⟨a, h⟩ <;> cases h)
  have hnb : ∀ b, g.ow b ≠ .box k → (w.setRow (g.bl k).1 cs').heap[b]? = w.heap[b]? := fun b hb => setRow_other w _ b _ (fun e => hb (e ▸ b2))
  have hsz : cs'.size = cs.size := by
    rw [hcs]
    simp
    omega
  have hget : ∀ i, cs'[i]? = if (g.bl k).2.1 + c ≤ i ∧ i < (g.bl k).2.1 + c + row.length then some (vs (i - ((g.bl k).2.1 + c))) else cs[i]? := by
    intro i
    rw [hcs]
    simp only [List.getElem?_toArray]
    have hl1 : (cs.toList.take ((g.bl k).2.1 + c)).length = (g.bl k).2.1 + c := by simp; omega
    rw [List.append_assoc, List.getElem?_append, hl1]
    by_cases h1 : i < (g.bl k).2.1 + c
    · rw [if_pos h1, if_neg (by omega), List.getElem?_take, if_pos h1]
      simp
    · rw [if_neg h1, List.getElem?_append]
      simp only [List.length_map, List.length_range]
      by_cases h2 : i - ((g.bl k).2.1 + c) < row.length
      · rw [if_pos h2, if_pos (by omega)]
        simp [h2]
      · rw [if_neg h2, if_neg (by omega), List.getElem?_drop]
        simp only [Array.getElem?_toList]
        congr 1
        omega
  have hS : ∀ r j p, σ.ex r → ¬ (boxRen k c row).S ⟨r, j, p⟩ := by
    rintro r j p hr ⟨h1, _⟩
    simp only at h1
    subst h1
    exact hr
  have hexeq : σ'.ex = σ.ex := by
    funext r
    cases r <;> simp [Sg.ex, hu.isnew, hu.kind, hu.mp]
  have hD : ∀ r j p, σ'.dirty r j = false → ¬ (boxRen k c row).D ⟨r, j, p⟩ := by
    rintro r j p hd ⟨h1, h2⟩
    have := (hu.dirty r j).2 (.inr ⟨h1, h2⟩)
    rw [hd] at this
    cases this
  have hDk : ∀ r j p, r ≠ .obj k → ¬ (boxRen k c row).D ⟨r, j, p⟩ := by
    rintro r j p hd ⟨h1, _⟩
    exact hd h1
  have hkeep : Keeps w (w.setRow (g.bl k).1 cs') g (g.ren (boxRen k c row)) σ.dirty σ'.dirty σ.ex := by
    refine ⟨Nat.le_refl _, fun b hb h => ⟨Gh.ren_fz h, hm b hb (.inl h)⟩, fun r j hr hd => ⟨?_, fun p => Gh.ren_hd (hD r j p hd)⟩, fun _ _ => rfl⟩
    cases h : σ.dirty r j with
    | false => rfl
    | true => rw [(hu.dirty r j).2 (.inl h)] at hd; cases hd
  have hnew : ∀ j x, row[j]? = some x → CRep (w.setRow (g.bl k).1 cs') (g.ren (boxRen k c row)) σ'.dirty ⟨.obj k, c + j, []⟩ x (vs j) := by
    intro j x hj
    by_cases ho : x.isOwn = true
    · have h1 := hrow j x hj
      unfold C.isOwn at ho
      split at ho
      · cases h1 with
        | t h1 => exact .t (h1.ren (R := boxRen k c row) (p := ⟨.ret, j, []⟩) hm ⟨rfl, _, hj, rfl⟩)
      · cases ho
    · exact (hrow j x hj).keeps (by simpa using ho) hkeep (hroots x (List.mem_of_getElem? hj))
  refine ⟨Core.step hc hkeep (fun n => .inl ⟨by rw [hu.slot], by rw [hu.isnew], rfl, fun j => Gh.ren_still hm (fun p => hS _ j p (σ.rt_ex n)) (fun p => hDk _ j p (σ.rt_ne_obj n k))⟩) (fun i kd h => ?_) (fun i j => ?_)
    (fun i es h => .inl ⟨by rw [← hu.mp]; exact h, fun _ h' => ⟨Gh.ren_box h', ?_⟩⟩) (fun r hr => by rw [hexeq]; exact hr) (fun b hb => ⟨by rw [(hc.glob b hb).1, Gh.ren_other (hc.glob b hb).1], hnb b (by rw [(hc.glob b hb).1]; intro e; cases e)⟩) (by simp), ?_⟩
  · rw [hu.kind] at h
    by_cases e : i = k
    · subst e
      right
      rw [hk] at h
      cases h
      refine ⟨cs', el, setRow_heap w _ _ _ _ _ hh, Gh.ren_box b2, b3, by rw [hsz]; exact b4, fun j hj => ?_⟩
      show ∃ u, cs'[(g.bl i).2.1 + j]? = some u ∧ _
      rw [hget, hu.cell]
      by_cases h1 : c ≤ j ∧ j < c + row.length
      · rw [if_pos (by omega), if_pos ⟨rfl, h1⟩]
        have hlt : j - c < row.length := by omega
        have := hnew (j - c) row[j - c] (List.getElem?_eq_getElem hlt)
        rw [show c + (j - c) = j by omega] at this
        refine ⟨vs (j - c), by congr 2; omega, ?_⟩
        simpa [List.getD, hlt] using this
      · rw [if_neg (by omega), if_neg (by omega)]
        obtain ⟨u, u1, u2⟩ := b5 j hj
        refine ⟨u, u1, u2.still hkeep (hc.liveC i j) (Gh.ren_still hm (fun p => hS _ j p hexk) fun p hd => ?_)⟩
        obtain ⟨_, h2, x, h3, _⟩ := hd
        simp only at h2 h3
        have := lt_of_getElem? h3
        omega
    · left
      have hexi : σ.ex (.obj i) := .inr (.inl (by rw [h]; simp))
      refine ⟨h, fun j => ⟨by rw [hu.cell, if_neg (by omega)], Gh.ren_still hm (fun p => hS _ j p hexi) (fun p => hDk _ j p (by intro q; cases q; exact e rfl))⟩, fun _ h' => ⟨Gh.ren_box h', hnb _ (by rw [h']; intro q; cases q; exact e rfl)⟩⟩
  · rw [hu.cell, hexeq]
    by_cases h1 : i = k ∧ c ≤ j ∧ j < c + row.length
    · rw [if_pos h1]
      right
      have hlt : j - c < row.length := by omega
      have e : row.getD (j - c) (.t .top) = row[j - c] := by simp [List.getD, hlt]
      rw [e]
      exact hroots _ (List.getElem_mem hlt)
    · rw [if_neg h1]; exact .inl rfl
  · refine setRow_other w _ _ _ fun q => ?_
    obtain ⟨l, ck, m1, _⟩ := hc.maps i es (by rw [← hu.mp]; exact h)
    rw [q, hh] at m1
    cases m1
  · refine ⟨by simp, rfl, fun b hb h => ?_, fun _ _ => rfl, fun b j hb hj h => ⟨Gh.ren_box h, fun cs1 el1 fr hh1 => ?_⟩, rfl, rfl, rfl⟩
    · refine ⟨?_, hnb b (by intro q; rw [q] at h; rcases h with h | h <;> cases h)⟩
      rcases h with h | h
      · rw [h, Gh.ren_fz h]
      · rw [h, Gh.ren_other h]
    · by_cases e : b = (g.bl k).1
      · subst e
        rw [b2] at h
        cases h
        rw [hh] at hh1
        cases hh1
        refine ⟨cs', setRow_heap w _ _ _ _ _ hh, hsz, fun i hi => ?_⟩
        rw [b3] at hi
        rw [hget, if_neg (by omega)]
      · exact ⟨cs1, (setRow_other w _ b _ e).trans hh1, rfl, fun _ _ => rfl⟩
end Vx

namespace Vx
open Go Classical
set_option linter.unusedSimpArgs false
set_option linter.unusedVariables false

section
variable {E : Env} {N : Nat} {o : Oper} {σ : Sg}

theorem Core.newboxPut {tmps : Array Value} {w : World} {g : Gh} (hc : Core E σ tmps w g) {d : Nat} (hd : d < tmps.size) (hn : σ.isnew d = false) (hk : σ.kind (100000 + d) = none) (hm : σ.mp (100000 + d) = none) {cs : Array Value} {el : TypeId} {row : List C}
    (hrow : ∀ j x, row[j]? = some x → ∃ u, cs[j]? = some u ∧ CRep w g σ.dirty ⟨.obj (100000 + d), j, []⟩ x u) (hlen : row.length = cs.size) (hroots : ∀ x ∈ row, ∀ r ∈ x.roots, σ.ex r) :
    ∃ g', Core E ((σ.upd (.box (100000 + d) row)).upd (.slot d (.c (.ptr ⟨.obj (100000 + d), 0, []⟩)))) (tmps.setIfInBounds d (.pointer (some ⟨w.heap.size, 0, none⟩))) (w.alloc (.cells cs el (0, 0))) g' ∧ Move w g (w.alloc (.cells cs el (0, 0))) g' := by
  have hex : ¬ σ.ex (.obj (100000 + d)) := by simp only [Sg.ex]; rw [hk, hm]; simp
  refine ⟨_, (hc.newbox hex hrow hlen hroots).put (by exact hn) (.c (.ptr (fun h => absurd rfl h) (fun _ => PRep.path_nil.2 ⟨100000 + d, rfl, ?_⟩) rfl)) (fun r hr => ?_) rfl (.inl hd), fresh_move (w := w) (ob := .cells cs el (0, 0)) fun k hk' => ?_⟩
  · simp [Gh.fresh]
  · simp only [SV.roots, C.roots, List.mem_singleton] at hr
    subst hr
    right; left
    simp [Sg.upd]
  · rw [if_neg (by omega)]

theorem ok_alloc (hN : okOper N o = true) {t : TypeId} (ho : o.op = .alloc t) (h : ((astep E.P o).run σ).ok) : OpOK E N o σ ((astep E.P o).run σ).upd := by
  simp only [astep, ho] at h ⊢
  cases hd : o.dst with
  | none => rw [hd] at h; exact h.elim
  | some d =>
    cases hi : tinfo E.P t with
    | none => rw [hd, hi] at h; exact h.elim
    | some i =>
      rw [hd, hi] at h
      simp only [Rd.run] at h ⊢
      cases hk : σ.kind (100000 + d) with
      | some kd => rw [hk] at h; exact h.elim
      | none =>
        cases hm : σ.mp (100000 + d) with
        | some m => rw [hk, hm] at h; exact h.elim
        | none =>
          rw [hk, hm] at h
          simp only at h ⊢
          obtain ⟨⟨hz1, hz2⟩, h2, _⟩ := put_ok h
          obtain ⟨hn, e, hdi⟩ := h2 d hd
          rw [e]
          obtain ⟨inf, z, a1, a2, a3, a4, a5, a6⟩ := tinfo_zero hi hz1 hz2
          intro a w g hc hs hl K Q hK
          have hex : (execOp a.eval o).run E.P w = .ok (.value (.pointer (some ⟨w.heap.size, 0, none⟩))) (w.alloc (.cells z.cells t (0, 0))) := by
            simp [execOp, ho, Instr.alloc, zeroValue, typeInfo, a1, a2, newVar, newRow]
          unfold Oper.wp
          rw [hex, Oper.upon_value, hd]
          have hzr := zero_rel (w := w) (g := g) (d := σ.dirty) hl a3 a4
          obtain ⟨g', hc', hmv⟩ := hc.newboxPut (cs := z.cells) (el := t) (row := i.zero.map C.t) (by rw [hs]; exact dst_lt hN hd) hn hk hm (fun j x hj => by
            obtain ⟨q1, q2⟩ := hzr ⟨.obj (100000 + d), j, []⟩
            have hlt := lt_of_getElem? hj
            have hlt' : j < z.cells.size := by rw [q1]; exact hlt
            exact ⟨_, Array.getElem?_eq_getElem hlt', (q2 j x _ hj (Array.getElem?_eq_getElem hlt')).1⟩) (hzr ⟨.ret, 0, []⟩).1.symm (fun x hx r hr => by
            obtain ⟨y, _, rfl⟩ := List.mem_map.1 hx
            simp [C.roots] at hr)
          exact hK _ _ g' hc' hmv (by simpa [Act.put] using hs) rfl

theorem ok_box (hN : okOper N o = true) {t : TypeId} {x : Operand} (ho : o.op = .box t x) (h : ((astep E.P o).run σ).ok) : OpOK E N o σ ((astep E.P o).run σ).upd := by
  have hopd : okOpd x = true := okOper_opd hN (by rw [ho]; simp [Op.operands])
  simp only [astep, ho] at h ⊢
  cases hd : o.dst with
  | none => rw [hd] at h; exact h.elim
  | some d =>
    cases hi : tinfo E.P t with
    | none => rw [hd, hi] at h; exact h.elim
    | some i =>
      rw [hd, hi] at h
      simp only [Rd.run] at h ⊢
      cases hk : σ.kind (100000 + d) with
      | some kd => rw [hk] at h; exact h.elim
      | none =>
        cases hm : σ.mp (100000 + d) with
        | some m => rw [hk, hm] at h; exact h.elim
        | none =>
          rw [hk, hm] at h
          simp only at h ⊢
          unfold moveS at h ⊢
          obtain ⟨row0, e1, hrow⟩ := rdRow_ok h
          rw [e1] at h ⊢
          obtain ⟨row, us, ht, e2⟩ := moveL_ok h
          rw [e2] at h ⊢
          obtain ⟨hsz, h2, _⟩ := put_ok h
          obtain ⟨hn, e, hdi⟩ := h2 d hd
          rw [e]
          intro a w g hc hs hl K Q hK
          obtain ⟨vs, hcells, hval⟩ := hrow E a w g hc hl hopd
          have hex0 : ¬ σ.ex (.obj (100000 + d)) := by simp only [Sg.ex]; rw [hk, hm]; simp
          obtain ⟨g1, tk, hr⟩ := ht.at_root hc (distinct_left (distinct_left hdi)) hex0 hcells
          have hex : (execOp a.eval o).run E.P w = .ok (.value (.pointer (some ⟨w.heap.size, 0, none⟩))) (w.alloc (.cells (a.eval x).cells t (0, 0))) := by
            simp [execOp, ho, Instr.box, newVar, newRow]
          unfold Oper.wp
          rw [hex, Oper.upon_value, hd]
          obtain ⟨g', hc', hmv⟩ := tk.core.newboxPut (cs := (a.eval x).cells) (el := t) (row := row) (d := d) (by rw [hs]; exact dst_lt hN hd) (by rw [tk.isnew]; exact hn) (by rw [tk.kind]; exact hk) (by rw [tk.mp]; exact hm) (fun j y hj => by
            have hlt := lt_of_getElem? hj
            rw [ht.length] at hlt
            refine ⟨vs j, by rw [hval]; simp [hlt], ?_⟩
            rw [tk.dirty]
            exact hr j y hj) (by rw [hval, ht.length]; simp) (fun y hy r hq => by
            rw [tk.ex]
            obtain ⟨z, hz1, hz2⟩ := ht.roots y hy r hq
            obtain ⟨j, hj⟩ := List.getElem?_of_mem hz1
            exact (hcells j z hj).2.2 r hz2)
          refine hK _ _ g' ?_ (tk.move.trans hmv) (by simpa [Act.put] using hs) rfl
          rw [upds_append, upds_append]
          exact hc'

theorem keys_left {x : SV} {us : List Upd} {ok : Prop} (h : ((Vx.put o x us ok).run σ).ok) : distinct (keysOf us) = true := by
  obtain ⟨_, h2, h3⟩ := put_ok h
  cases hd : o.dst with
  | none => exact (h3 hd).2
  | some d => exact distinct_left (h2 d hd).2.2
/-- An operation that writes and has no result. -/
theorem OpOK.skip (hN : okOper N o = true) {us : List Upd} {ok : Prop} (h : ((Vx.put o undefS us ok).run σ).ok)
    (hx : ∀ (a : Act) w g, Core E σ a.tmps w g → a.tmps.size = N → LIM ≤ g.lim → ∃ w' g', (execOp a.eval o).run E.P w = .ok .skip w' ∧ Core E (σ.upds us) a.tmps w' g' ∧ Move w g w' g' ∧ (σ.upds us).isnew = σ.isnew) :
    OpOK E N o σ ((Vx.put o undefS us ok).run σ).upd := by
  intro a w g hc hs hl K Q hK
  obtain ⟨w', g', he, hc', hm, hn'⟩ := hx a w g hc hs hl
  unfold Oper.wp
  rw [he, Oper.upon_skip]
  obtain ⟨_, h2, h3⟩ := put_ok h
  cases hd : o.dst with
  | none =>
    refine hK _ w' g' ?_ hm hs rfl
    rw [(h3 hd).1]
    exact hc'
  | some d =>
    obtain ⟨hn, e, _⟩ := h2 d hd
    refine hK _ w' g' ?_ hm (by simpa [Act.put] using hs) rfl
    rw [e, upds_append]
    exact (hc'.put (by rw [hn']; exact hn) (.c (.t (.fro .val))) (by simp [SV.roots, C.roots]) rfl (.inl (by rw [hs]; exact dst_lt hN hd)))
theorem boxUpd_isnew {τ : Sg} {k c m : Nat} {row : List C} (hk : τ.kind k = some (.box m)) (hc : c + row.length ≤ m) : (τ.upds (storeCells' k c row)).isnew = τ.isnew := (boxUpd row τ k c hk hc).isnew

theorem run_storeAt {P : Program} {t : TypeId} {i : TI} (h : tinfo P t = some i) {b off : Nat} {v : Value} {w : World} {cs : Array Value} {el : TypeId} (hh : w.heap[b]? = some (.cells cs el (0, 0)))
    (hs : v.cells.size = i.size) (hb : off + v.cells.size ≤ cs.size) (h1 : ∀ u ∈ v.cells, u.oneCell' = true) :
    (Instr.storeAt t (.pointer (some ⟨b, off, none⟩)) v).run P w = .ok () (w.setRow b (cs.toList.take off ++ v.cells.toList ++ cs.toList.drop (off + v.cells.toList.length)).toArray) := by
  have := run_storeCells_at (P := P) b off el v.cells.toList 0 cs w hh (by simpa using hb) (by simpa using h1)
  simp only [Nat.add_zero] at this
  simp [Instr.storeAt, Instr.sureAddr, storeVar, run_sizeOf h, hs, this]

theorem ok_store_box (hN : okOper N o = true) {t : TypeId} {p v : Operand} (ho : o.op = .store t p v) {i : TI} (hi : tinfo E.P t = some i) {k c m : Nat} {us : List Upd}
    (hp : ∀ (a : Act) w g, Core E σ a.tmps w g → LIM ≤ g.lim → PRep g ⟨.obj k, c, []⟩ (a.eval p)) (hk : σ.kind k = some (.box m))
    (h : ((moveS v fun row us => Vx.put o undefS (us ++ storeCells' k c row) (row.length = i.size ∧ c + i.size ≤ m ∧ row.all C.one = true)).run σ).ok)
    (hus : us = ((moveS v fun row us => Vx.put o undefS (us ++ storeCells' k c row) (row.length = i.size ∧ c + i.size ≤ m ∧ row.all C.one = true)).run σ).upd) : OpOK E N o σ us := by
  have hopd : okOpd v = true := okOper_opd hN (by rw [ho]; simp [Op.operands])
  subst hus
  unfold moveS at h ⊢
  obtain ⟨row0, e1, hrow⟩ := rdRow_ok h
  rw [e1] at h ⊢
  obtain ⟨row, us, ht, e2⟩ := moveL_ok h
  rw [e2] at h ⊢
  obtain ⟨⟨hs1, hs2, hs3⟩, h2, h3⟩ := put_ok h
  refine OpOK.skip hN h ?_
  intro a w g hc hs hl
  obtain ⟨vs, hcells, hval⟩ := hrow E a w g hc hl hopd
  obtain ⟨g1, tk, hr⟩ := ht.at_root hc (distinct_left (keys_left h)) (r := .ret) (fun h => h) hcells
  obtain ⟨k', ek, hpv⟩ := PRep.path_nil.1 (hp a w g hc hl)
  cases ek
  have hk1 : (σ.upds us).kind k = some (.box m) := by rw [tk.kind]; exact hk
  obtain ⟨cs, el, b1, b2, b3, b4, b5⟩ := tk.core.objs k _ hk1
  have hexk : σ.ex (.obj k) := .inr (.inl (by rw [hk]; simp))
  have hbl : g1.bl k = g.bl k := tk.keeps.bl k hexk
  have hlen : (a.eval v).cells.toList = (List.range row.length).map vs := by rw [hval, ht.length]
  have hlen2 : (a.eval v).cells.size = row.length := by rw [hval, ht.length]; simp
  have hst := run_storeAt (P := E.P) hi (b := (g1.bl k).1) (off := (g1.bl k).2.1 + c) (v := a.eval v) b1 (by rw [hlen2]; exact hs1) (by rw [hlen2]; omega) (fun u hu => by
    have hu' : u ∈ (List.range row.length).map vs := by rw [← hlen]; simpa using hu
    obtain ⟨j, hj, rfl⟩ := List.mem_map.1 hu'
    have hj' : j < row.length := by simpa using hj
    refine (hr j row[j] (List.getElem?_eq_getElem hj')).one ?_
    simp only [List.all_eq_true] at hs3
    exact hs3 _ (List.getElem_mem hj'))
  have hex : (execOp a.eval o).run E.P w = .ok .skip (w.setRow (g1.bl k).1 (cs.toList.take ((g1.bl k).2.1 + c) ++ (List.range row.length).map vs ++ cs.toList.drop ((g1.bl k).2.1 + c + row.length)).toArray) := by
    rw [hlen] at hst
    simp only [List.length_map, List.length_range] at hst
    simp only [execOp, ho, hpv, ← hbl]
    simp only [Sem.run_bind, hst]
    rfl
  obtain ⟨hc2, hmv⟩ := tk.core.storeCells (k := k) (c := c) (row := row) hk1 (by rw [hs1]; exact hs2) (fun j x hj => by rw [tk.dirty]; exact hr j x hj) (fun y hy r hq => by
    rw [tk.ex]
    obtain ⟨z, hz1, hz2⟩ := ht.roots y hy r hq
    obtain ⟨j, hj⟩ := List.getElem?_of_mem hz1
    exact (hcells j z hj).2.2 r hz2) b1 rfl
  refine ⟨_, _, hex, ?_, tk.move.trans hmv, by rw [upds_append, boxUpd_isnew hk1 (by rw [hs1]; exact hs2), tk.isnew]⟩
  rw [upds_append]
  exact hc2
end
end Vx

namespace Vx
open Go Classical
set_option linter.unusedSimpArgs false
set_option linter.unusedVariables false

/-! ## What a state says at a location -/
def SameAt (σ τ : Sg) : Loc → Prop
  | .slot n => σ.slot n = τ.slot n ∧ σ.isnew n = τ.isnew n ∧ (∀ c, σ.dirty (.slot n) c = τ.dirty (.slot n) c) ∧ ∀ c, σ.dirty (.new n) c = τ.dirty (.new n) c
  | .cell k c => σ.cell k c = τ.cell k c ∧ σ.dirty (.obj k) c = τ.dirty (.obj k) c
  | .kind k => σ.kind k = τ.kind k
  | .mp k => σ.mp k = τ.mp k
theorem SameAt.refl (σ : Sg) (l : Loc) : SameAt σ σ l := by cases l <;> simp [SameAt]
theorem SameAt.symm {σ τ : Sg} {l : Loc} (h : SameAt σ τ l) : SameAt τ σ l := by
  cases l with
  | slot n => exact ⟨h.1.symm, h.2.1.symm, fun c => (h.2.2.1 c).symm, fun c => (h.2.2.2 c).symm⟩
  | cell k c => exact ⟨h.1.symm, h.2.symm⟩
  | kind k => exact Eq.symm h
  | mp k => exact Eq.symm h
theorem SameAt.trans {σ τ υ : Sg} {l : Loc} (h : SameAt σ τ l) (k : SameAt τ υ l) : SameAt σ υ l := by
  cases l with
  | slot n => exact ⟨h.1.trans k.1, h.2.1.trans k.2.1, fun c => (h.2.2.1 c).trans (k.2.2.1 c), fun c => (h.2.2.2 c).trans (k.2.2.2 c)⟩
  | cell i c => exact ⟨h.1.trans k.1, h.2.trans k.2⟩
  | kind i => exact Eq.trans h k
  | mp i => exact Eq.trans h k
theorem SameAt.ext {σ τ : Sg} (h : ∀ l, SameAt σ τ l) (hr : ∀ c, σ.dirty .ret c = τ.dirty .ret c) : σ = τ := by
  cases σ; cases τ
  congr 1
  · funext n; exact (h (.slot n)).1
  · funext n; exact (h (.slot n)).2.1
  · funext k c; exact (h (.cell k c)).1
  · funext k; exact h (.kind k)
  · funext k; exact h (.mp k)
  · funext r c
    cases r with
    | slot n => exact (h (.slot n)).2.2.1 c
    | new n => exact (h (.slot n)).2.2.2 c
    | obj k => exact (h (.cell k c)).2
    | ret => exact hr c

theorem Rd.same {α : Type} : ∀ (f : Rd α) {σ τ : Sg}, (∀ l ∈ f.log σ, SameAt σ τ l) → f.run τ = f.run σ ∧ f.log τ = f.log σ
  | .ret a, σ, τ, h => ⟨rfl, rfl⟩
  | .slot n f, σ, τ, h => by
    have h0 := h (.slot n) (by simp [Rd.log])
    obtain ⟨h1, h2, h3, h4⟩ := h0
    have hrt : τ.rt n = σ.rt n := by simp [Sg.rt, h2]
    have hd : τ.dirty (τ.rt n) = σ.dirty (σ.rt n) := by
      rw [hrt]
      funext c
      rcases σ.rt_slot n with e | e <;> rw [e]
      · exact (h3 c).symm
      · exact (h4 c).symm
    obtain ⟨e1, e2⟩ := Rd.same (f (σ.slot n) (σ.isnew n) (σ.dirty (σ.rt n))) (σ := σ) (τ := τ) fun l hl => h l (by simp [Rd.log, hl])
    simp only [Rd.run, Rd.log, ← h1, ← h2, hd, e1, e2, and_self]
  | .cell k c f, σ, τ, h => by
    obtain ⟨h1, h2⟩ := h (.cell k c) (by simp [Rd.log])
    obtain ⟨e1, e2⟩ := Rd.same (f (σ.cell k c) (σ.dirty (.obj k) c)) (σ := σ) (τ := τ) fun l hl => h l (by simp [Rd.log, hl])
    simp only [Rd.run, Rd.log, ← h1, ← h2, e1, e2, and_self]
  | .kind k f, σ, τ, h => by
    have h1 : σ.kind k = τ.kind k := h (.kind k) (by simp [Rd.log])
    obtain ⟨e1, e2⟩ := Rd.same (f (σ.kind k)) (σ := σ) (τ := τ) fun l hl => h l (by simp [Rd.log, hl])
    simp only [Rd.run, Rd.log, ← h1, e1, e2, and_self]
  | .mp k f, σ, τ, h => by
    have h1 : σ.mp k = τ.mp k := h (.mp k) (by simp [Rd.log])
    obtain ⟨e1, e2⟩ := Rd.same (f (σ.mp k)) (σ := σ) (τ := τ) fun l hl => h l (by simp [Rd.log, hl])
    simp only [Rd.run, Rd.log, ← h1, e1, e2, and_self]

/-! ## What an update does to the locations -/
def Upd.wr (u : Upd) (l : Loc) : Prop := ∃ w ∈ u.locs, w.covers l = true
theorem covers_self (l : Loc) : l.covers l = true := by simp [Loc.covers]
theorem setP_frame {σ : Sg} {r : Root} {c : Nat} {x : C} {l : Loc} (h : ∀ w ∈ rootLoc r c, w.covers l = false) : SameAt (σ.setP r c x) σ l := by
  cases r with
  | slot n =>
    cases l with
    | slot m =>
      have := h (.slot n) (by simp [rootLoc])
      have hne : m ≠ n := by rintro rfl; simp [covers_self] at this
      exact ⟨by simp [Sg.setP, hne], rfl, fun _ => rfl, fun _ => rfl⟩
    | cell k c => exact ⟨rfl, rfl⟩
    | kind k => rfl
    | mp k => rfl
  | new n =>
    cases l with
    | slot m =>
      have := h (.slot n) (by simp [rootLoc])
      have hne : m ≠ n := by rintro rfl; simp [covers_self] at this
      exact ⟨by simp [Sg.setP, hne], rfl, fun _ => rfl, fun _ => rfl⟩
    | cell k c => exact ⟨rfl, rfl⟩
    | kind k => rfl
    | mp k => rfl
  | obj k =>
    cases l with
    | slot m => exact ⟨rfl, rfl, fun _ => rfl, fun _ => rfl⟩
    | cell i j =>
      have := h (.cell k c) (by simp [rootLoc])
      have hne : ¬ (i = k ∧ j = c) := by rintro ⟨rfl, rfl⟩; simp [covers_self] at this
      refine ⟨?_, rfl⟩
      simp only [Sg.setP]
      rw [if_neg (fun q => hne ⟨q.1, q.2.1⟩)]
    | kind k => rfl
    | mp k => rfl
  | ret => exact SameAt.refl _ _
theorem setP_dep {σ τ : Sg} {r : Root} {c : Nat} {x : C} (h : ∀ l, ((∃ w ∈ rootLoc r c, w.covers l = true) ∨ l ∈ rootDep r) → SameAt σ τ l) : ∀ l, (∃ w ∈ rootLoc r c, w.covers l = true) → SameAt (σ.setP r c x) (τ.setP r c x) l := by
  intro l hl
  have h0 := h l (.inl hl)
  obtain ⟨w, hw, hc⟩ := hl
  cases r with
  | slot n =>
    simp only [rootLoc, List.mem_singleton] at hw
    subst hw
    have : l = .slot n := by
      cases l <;> simp [Loc.covers] at hc
      rw [hc]
    subst this
    obtain ⟨h1, h2, h3, h4⟩ := h0
    exact ⟨by simp [Sg.setP, h1], h2, h3, h4⟩
  | new n =>
    simp only [rootLoc, List.mem_singleton] at hw
    subst hw
    have : l = .slot n := by
      cases l <;> simp [Loc.covers] at hc
      rw [hc]
    subst this
    obtain ⟨h1, h2, h3, h4⟩ := h0
    exact ⟨by simp [Sg.setP, h1], h2, h3, h4⟩
  | obj k =>
    simp only [rootLoc, List.mem_singleton] at hw
    subst hw
    have : l = .cell k c := by
      cases l <;> simp [Loc.covers] at hc
      rw [hc.1, hc.2]
    subst this
    obtain ⟨h1, h2⟩ := h0
    have hk : σ.kind k = τ.kind k := h (.kind k) (.inr (by simp [rootDep]))
    refine ⟨?_, h2⟩
    simp [Sg.setP, Sg.inr, hk, h1]
  | ret => simp [rootLoc] at hw
theorem upd_frame {σ : Sg} {u : Upd} {l : Loc} (h : ¬ u.wr l) : SameAt (σ.upd u) σ l := by
  have h' : ∀ w ∈ u.locs, w.covers l = false := by
    intro w hw
    cases hc : w.covers l with
    | false => rfl
    | true => exact absurd ⟨w, hw, hc⟩ h
  cases u with
  | slot n x =>
    have := h' (.slot n) (by simp [Upd.locs])
    cases l with
    | slot m =>
      have hne : m ≠ n := by rintro rfl; simp [covers_self] at this
      exact ⟨by simp [Sg.upd, hne], by simp [Sg.upd, hne], fun _ => rfl, fun _ => rfl⟩
    | cell k c => exact ⟨rfl, rfl⟩
    | kind k => rfl
    | mp k => rfl
  | hole r c => exact setP_frame h'
  | set r c t => exact setP_frame h'
  | dirtS n c =>
    have := h' (.slot n) (by simp [Upd.locs])
    cases l with
    | slot m =>
      have hne : m ≠ n := by rintro rfl; simp [covers_self] at this
      have e : ∀ c', ¬ (Root.slot m = σ.rt n ∧ c' = c) := by
        rintro c' ⟨e, _⟩
        rcases σ.rt_slot n with q | q <;> rw [q] at e <;> cases e
        exact hne rfl
      have e2 : ∀ c', ¬ (Root.new m = σ.rt n ∧ c' = c) := by
        rintro c' ⟨e, _⟩
        rcases σ.rt_slot n with q | q <;> rw [q] at e <;> cases e
        exact hne rfl
      exact ⟨rfl, rfl, fun c' => by simp only [Sg.upd]; rw [if_neg (e c')], fun c' => by simp only [Sg.upd]; rw [if_neg (e2 c')]⟩
    | cell k j =>
      refine ⟨rfl, ?_⟩
      simp only [Sg.upd]
      rw [if_neg (fun q => σ.rt_ne_obj n k q.1.symm)]
    | kind k => rfl
    | mp k => rfl
  | cell k c x => exact setP_frame (r := .obj k) (c := c) h'
  | dirtC k c =>
    have := h' (.cell k c) (by simp [Upd.locs])
    cases l with
    | slot m => exact ⟨rfl, rfl, fun c' => by simp [Sg.upd], fun c' => by simp [Sg.upd]⟩
    | cell i j =>
      have hne : ¬ (i = k ∧ j = c) := by rintro ⟨rfl, rfl⟩; simp [covers_self] at this
      refine ⟨rfl, ?_⟩
      simp only [Sg.upd]
      rw [if_neg (by rintro ⟨e1, e2⟩; cases e1; exact hne ⟨rfl, e2⟩)]
    | kind k => rfl
    | mp k => rfl
  | box k row =>
    have := h' (.kind k) (by simp [Upd.locs])
    cases l with
    | slot m => exact ⟨rfl, rfl, fun _ => rfl, fun _ => rfl⟩
    | cell i j =>
      have hne : i ≠ k := by rintro rfl; simp [Loc.covers] at this
      exact ⟨by simp [Sg.upd, hne], rfl⟩
    | kind i =>
      have hne : i ≠ k := by rintro rfl; simp [covers_self] at this
      simp [SameAt, Sg.upd, hne]
    | mp k => rfl
  | mp k es =>
    have := h' (.mp k) (by simp [Upd.locs])
    cases l with
    | slot m => exact ⟨rfl, rfl, fun _ => rfl, fun _ => rfl⟩
    | cell i j => exact ⟨rfl, rfl⟩
    | kind i => rfl
    | mp i =>
      have hne : i ≠ k := by rintro rfl; simp [covers_self] at this
      simp [SameAt, Sg.upd, hne]
theorem upd_dep {σ τ : Sg} {u : Upd} (h : ∀ l, (u.wr l ∨ l ∈ u.deps) → SameAt σ τ l) : ∀ l, u.wr l → SameAt (σ.upd u) (τ.upd u) l := by
  intro l hl
  have h0 := h l (.inl hl)
  cases u with
  | slot n x =>
    obtain ⟨w, hw, hc⟩ := hl
    simp only [Upd.locs, List.mem_singleton] at hw
    subst hw
    have : l = .slot n := by
      cases l <;> simp [Loc.covers] at hc
      rw [hc]
    subst this
    obtain ⟨h1, h2, h3, h4⟩ := h0
    exact ⟨by simp [Sg.upd], by simp [Sg.upd], h3, h4⟩
  | hole r c => exact setP_dep h l hl
  | set r c t => exact setP_dep h l hl
  | dirtS n c =>
    obtain ⟨w, hw, hc⟩ := hl
    simp only [Upd.locs, List.mem_singleton] at hw
    subst hw
    have : l = .slot n := by
      cases l <;> simp [Loc.covers] at hc
      rw [hc]
    subst this
    obtain ⟨h1, h2, h3, h4⟩ := h0
    have hrt : τ.rt n = σ.rt n := by simp [Sg.rt, h2]
    exact ⟨h1, h2, fun c' => by simp only [Sg.upd, hrt, h3], fun c' => by simp only [Sg.upd, hrt, h4]⟩
  | cell k c x => exact setP_dep (r := .obj k) (c := c) (x := x) (fun l hl => h l (hl.imp id (by simp [rootDep, Upd.deps]))) l hl
  | dirtC k c =>
    obtain ⟨w, hw, hc⟩ := hl
    simp only [Upd.locs, List.mem_singleton] at hw
    subst hw
    have : l = .cell k c := by
      cases l <;> simp [Loc.covers] at hc
      rw [hc.1, hc.2]
    subst this
    obtain ⟨h1, h2⟩ := h0
    exact ⟨h1, by simp only [Sg.upd, h2]⟩
  | box k row =>
    obtain ⟨w, hw, hc⟩ := hl
    simp only [Upd.locs, List.mem_singleton] at hw
    subst hw
    cases l with
    | slot m => simp [Loc.covers] at hc
    | cell i j =>
      have : i = k := by simp [Loc.covers] at hc; exact hc.symm
      subst this
      exact ⟨by simp [Sg.upd], h0.2⟩
    | kind i =>
      have : i = k := by simp [Loc.covers] at hc; exact hc.symm
      subst this
      simp [SameAt, Sg.upd]
    | mp i => simp [Loc.covers] at hc
  | mp k es =>
    obtain ⟨w, hw, hc⟩ := hl
    simp only [Upd.locs, List.mem_singleton] at hw
    subst hw
    have : l = .mp k := by
      cases l <;> simp [Loc.covers] at hc
      rw [hc]
    subst this
    simp [SameAt, Sg.upd]
theorem upd_ret (σ : Sg) (u : Upd) (c : Nat) : (σ.upd u).dirty .ret c = σ.dirty .ret c := by
  cases u with
  | hole r c' => simp [Sg.upd, Sg.setP_dirty]
  | set r c' t => simp [Sg.upd, Sg.setP_dirty]
  | cell k c' x => simp [Sg.upd, Sg.setP_dirty]
  | dirtS n c' =>
    simp only [Sg.upd]
    rw [if_neg]
    rintro ⟨e, _⟩
    rcases σ.rt_slot n with q | q <;> rw [q] at e <;> cases e
  | dirtC k c' => simp [Sg.upd]
  | _ => rfl

def Wr (us : List Upd) (l : Loc) : Prop := ∃ w ∈ wlocs us, w.covers l = true
theorem mem_wlocs {us : List Upd} {w : Loc} : w ∈ wlocs us ↔ ∃ u ∈ us, w ∈ u.locs := by
  induction us <;> simp_all [wlocs]
theorem mem_dlocs {us : List Upd} {w : Loc} : w ∈ dlocs us ↔ ∃ u ∈ us, w ∈ u.deps := by
  induction us <;> simp_all [dlocs]
theorem wr_cons {u : Upd} {us : List Upd} {l : Loc} : Wr (u :: us) l ↔ u.wr l ∨ Wr us l := by
  simp only [Wr, wlocs, List.mem_append]
  constructor
  · rintro ⟨w, h | h, hc⟩
    · exact .inl ⟨w, h, hc⟩
    · exact .inr ⟨w, h, hc⟩
  · rintro (⟨w, h, hc⟩ | ⟨w, h, hc⟩)
    · exact ⟨w, .inl h, hc⟩
    · exact ⟨w, .inr h, hc⟩
theorem upds_cons (σ : Sg) (u : Upd) (us : List Upd) : σ.upds (u :: us) = (σ.upd u).upds us := rfl
theorem upds_frame : ∀ {us : List Upd} {σ : Sg} {l : Loc}, ¬ Wr us l → SameAt (σ.upds us) σ l
  | [], σ, l, h => SameAt.refl _ _
  | u :: us, σ, l, h => by
    rw [wr_cons] at h
    rw [upds_cons]
    exact (upds_frame (fun q => h (.inr q))).trans (upd_frame fun q => h (.inl q))
theorem upds_dep {X : Loc → Prop} : ∀ {us : List Upd} {σ τ : Sg}, (∀ l, Wr us l → X l) → (∀ l ∈ dlocs us, X l) → (∀ l, X l → SameAt σ τ l) → ∀ l, X l → SameAt (σ.upds us) (τ.upds us) l
  | [], σ, τ, h1, h2, h, l, hl => h l hl
  | u :: us, σ, τ, h1, h2, h, l, hl => by
    rw [upds_cons, upds_cons]
    refine upds_dep (fun l hl => h1 l (wr_cons.2 (.inr hl))) (fun l hl => h2 l (by simp [dlocs, hl])) (fun l hl => ?_) l hl
    by_cases hw : u.wr l
    · exact upd_dep (fun l hl => h l (hl.elim (fun q => h1 l (wr_cons.2 (.inl q))) (fun q => h2 l (by simp [dlocs, q])))) l hw
    · exact ((upd_frame hw).trans (h l hl)).trans (upd_frame hw).symm
theorem upds_ret : ∀ (us : List Upd) (σ : Sg) (c : Nat), (σ.upds us).dirty .ret c = σ.dirty .ret c
  | [], σ, c => rfl
  | u :: us, σ, c => by rw [upds_cons, upds_ret us, upd_ret]
theorem upds_comm {us vs : List Upd} (σ : Sg) (h1 : ∀ l, Wr us l → ¬ Wr vs l) (h2 : ∀ l ∈ dlocs us, ¬ Wr vs l) (h3 : ∀ l ∈ dlocs vs, ¬ Wr us l) : (σ.upds us).upds vs = (σ.upds vs).upds us := by
  refine SameAt.ext (fun l => ?_) fun c => by rw [upds_ret, upds_ret, upds_ret, upds_ret]
  by_cases hu : Wr us l
  · refine (upds_frame (h1 l hu)).trans ?_
    exact upds_dep (X := fun l => Wr us l ∨ l ∈ dlocs us) (fun l h => .inl h) (fun l h => .inr h) (fun l h => (upds_frame (h.elim (h1 l) (h2 l))).symm) l (.inl hu)
  · by_cases hv : Wr vs l
    · refine SameAt.trans ?_ (upds_frame hu).symm
      exact upds_dep (X := fun l => Wr vs l ∨ l ∈ dlocs vs) (fun l h => .inl h) (fun l h => .inr h) (fun l h => upds_frame (h.elim (fun q r => h1 l r q) (h3 l))) l (.inl hv)
    · exact ((upds_frame hv).trans (upds_frame hu)).trans ((upds_frame hu).trans (upds_frame hv)).symm

theorem meets_false {a b : List Loc} (h : meets a b = false) : ∀ w ∈ a, ∀ l ∈ b, w.covers l = false := by
  intro w hw l hl
  simp only [meets, List.any_eq_false] at h
  have := h w hw
  simp only [Bool.not_eq_true, List.any_eq_false] at this
  simpa using this l hl
theorem meets_wr {us : List Upd} {b : List Loc} (h : meets (wlocs us) b = false) : ∀ l ∈ b, ¬ Wr us l := by
  rintro l hl ⟨w, hw, hc⟩
  rw [meets_false h w hw l hl] at hc
  cases hc
theorem covers_two {w w' l : Loc} (h : w.covers l = true) (h' : w'.covers l = true) : w.covers w' = true ∨ w'.covers w = true := by
  cases w <;> cases w' <;> cases l <;> simp_all [Loc.covers]
theorem meets_wrs {us vs : List Upd} (h : meets (wlocs us) (wlocs vs) = false) (h' : meets (wlocs vs) (wlocs us) = false) : ∀ l, Wr us l → ¬ Wr vs l := by
  rintro l ⟨w, hw, hc⟩ ⟨w', hw', hc'⟩
  rcases covers_two hc hc' with q | q
  · rw [meets_false h w hw w' hw'] at q; cases q
  · rw [meets_false h' w' hw' w hw] at q; cases q
end Vx

namespace Vx
open Go Classical
set_option linter.unusedSimpArgs false
set_option linter.unusedVariables false

/-! ## The list state and the semantic one -/
theorem lk_seta {α : Type} (n m : Nat) (x : α) : ∀ l : List (Nat × α), lk m (seta n x l) = if m = n then some x else lk m l
  | [] => by simp [seta, lk]
  | (k, y) :: l => by
    simp only [seta]
    by_cases h : n = k
    · subst h
      simp only [if_true, lk]
      split <;> simp_all
    · rw [if_neg h]
      simp only [lk, lk_seta n m x l]
      by_cases h2 : m = k
      · subst h2
        simp [h, Ne.symm h]
      · simp [h2]
theorem St.setP_sg (s : St) (r : Root) (c : Nat) (x : C) : (s.setP r c x).sg = s.sg.setP r c x := by
  cases r with
  | slot n =>
    simp only [St.setP, St.sg, Sg.setP]
    congr 1
    funext m
    simp only [St.slot, lk_seta]
    split <;> simp_all
  | new n =>
    simp only [St.setP, St.sg, Sg.setP]
    congr 1
    funext m
    simp only [St.slot, lk_seta]
    split <;> simp_all
  | obj k =>
    simp only [St.setP]
    cases h : lk k s.ob with
    | some row =>
      simp only [St.sg, Sg.setP, Sg.inr]
      congr 1
      · funext i j
        simp only [St.cell, lk_seta, St.kind, h, inrK]
        by_cases e : i = k
        · subst e
          simp only [if_true, true_and, decide_eq_true_eq]
          by_cases e2 : j = c
          · subst e2
            by_cases e3 : j < row.length
            · simp [e3, List.getD]
            · simp [e3, List.getD, h]
          · simp [e2, List.getD, h, List.getElem?_set_ne (Ne.symm e2)]
        · simp [e]
      · funext i
        simp only [St.kind, lk_seta]
        by_cases e : i = k
        · subst e; simp [h]
        · simp [e]
    | none =>
      cases hv : lk k s.vi with
      | none =>
        simp only [Option.isSome_none, Bool.false_eq_true, and_false, if_false]
        simp only [St.sg, Sg.setP, Sg.inr]
        congr 1
        funext i j
        simp [St.kind, h, hv, inrK]
      | some y =>
        by_cases hc : c = 0
        · subst hc
          simp only [Option.isSome_some, and_self, if_true]
          simp only [St.sg, Sg.setP, Sg.inr]
          congr 1
          · funext i j
            simp only [St.cell, lk_seta, St.kind, h, hv, inrK]
            by_cases e : i = k
            · subst e
              simp only [if_true, true_and, h, hv]
              by_cases e2 : j = 0 <;> simp [e2]
            · simp [e]
          · funext i
            simp only [St.kind, lk_seta]
            by_cases e : i = k
            · subst e; simp [h, hv]
            · simp [e]
        · simp only [hc, false_and, if_false]
          simp only [St.sg, Sg.setP, Sg.inr]
          congr 1
          funext i j
          simp [St.kind, h, hv, inrK, hc]
  | ret => rfl
theorem St.upd_sg (s : St) (u : Upd) : (s.upd u).sg = s.sg.upd u := by
  cases u with
  | slot n x =>
    simp only [St.upd, St.sg, Sg.upd]
    congr 1
    · funext m
      simp only [St.slot, lk_seta]
      split <;> simp_all
    · funext m
      simp only [St.isnew, List.contains_cons]
      by_cases e : m = n <;> simp [e]
  | hole r c => exact St.setP_sg s r c _
  | set r c t => exact St.setP_sg s r c _
  | cell k c x => exact St.setP_sg s (.obj k) c x
  | dirtS n c =>
    simp only [St.upd, St.sg, Sg.upd]
    congr 1
    funext r j
    show ((Vx.rt n (s.isnew n), c) :: s.di).contains (r, j) = if r = s.sg.rt n ∧ j = c then true else s.di.contains (r, j)
    have hrt : s.sg.rt n = Vx.rt n (s.isnew n) := rfl
    by_cases e : r = Vx.rt n (s.isnew n) ∧ j = c
    · obtain ⟨rfl, rfl⟩ := e; simp [hrt]
    · rw [if_neg (by rw [hrt]; exact e), List.contains_cons]
      have : ((r, j) == (Vx.rt n (s.isnew n), c)) = false := by
        rw [beq_eq_false_iff_ne]
        intro q; cases q; exact e ⟨rfl, rfl⟩
      rw [this]; simp
  | dirtC k c =>
    simp only [St.upd, St.sg, Sg.upd]
    congr 1
    funext r j
    simp only [St.dirty]
    by_cases e : r = .obj k ∧ j = c
    · obtain ⟨rfl, rfl⟩ := e; simp
    · rw [if_neg e, List.contains_cons]
      have : ((r, j) == (Root.obj k, c)) = false := by
        rw [beq_eq_false_iff_ne]
        intro q; cases q; exact e ⟨rfl, rfl⟩
      rw [this]; simp
  | box k row =>
    simp only [St.upd, St.sg, Sg.upd]
    congr 1
    · funext i j
      simp only [St.cell, lk_seta]
      by_cases e : i = k <;> simp [e]
    · funext i
      simp only [St.kind, lk_seta]
      by_cases e : i = k <;> simp [e]
  | mp k es =>
    simp only [St.upd, St.sg, Sg.upd]
    congr 1
    funext i
    simp only [St.map, lk_seta]
theorem St.upds_sg : ∀ (us : List Upd) (s : St), (s.upds us).sg = s.sg.upds us
  | [], s => rfl
  | u :: us, s => by rw [St.upds, St.upds_sg us, St.upd_sg, upds_cons]
theorem Rd.go_iff {α : Type} (s : St) : ∀ (f : Rd α) (lg : List Loc) (K : α → List Loc → Prop), f.go s lg K ↔ K (f.run s.sg) ((f.log s.sg).reverse ++ lg)
  | .ret a, lg, K => by simp [Rd.go, Rd.run, Rd.log]
  | .slot n f, lg, K => by
    simp only [Rd.go]
    rw [Rd.go_iff s]
    simp [Rd.run, Rd.log, St.sg, Sg.rt]
  | .cell k c f, lg, K => by
    simp only [Rd.go]
    rw [Rd.go_iff s]
    simp [Rd.run, Rd.log, St.sg]
  | .kind k f, lg, K => by
    simp only [Rd.go]
    rw [Rd.go_iff s]
    simp [Rd.run, Rd.log, St.sg]
  | .mp k f, lg, K => by
    simp only [Rd.go]
    rw [Rd.go_iff s]
    simp [Rd.run, Rd.log, St.sg]

/-! ## One operation, all its kinds -/
def ostep1 (P : Program) (R : Rel) (o : Oper) (an : Ans) : Rd Eff :=
  match o.op with
  | .pick (.tmp c) a b => .slot c fun sv _ _ => match sv with
    | .c (.t (.bool t)) => rdS (if t then a else b) fun sv => put o sv [] (sv.row.isSome = true)
    | _ => fail
  | .call { callee := .value (.func g), args, .. } => stepCall R o g args.toList an
  | .call { callee := .value (.tmp n), args, .. } => stepCallV R o n args.toList an
  | _ => astep P o
def ostep (P : Program) (R : Rel) (ops : List Oper) (o : Oper) (an : Ans) : Rd Eff :=
  match o.guard with
  | none => ostep1 P R o an
  | some (j, want) => match (ops[j]?).bind (·.dst) with
    | some d => .slot d fun sv _ _ => match sv with
      | .c (.t (.bool b)) => if b = want then ostep1 P R o an else skipOp o
      | .c (.t (.val (.tuple _))) => skipOp o
      | _ => fail
    | none => fail

/-- A step of the walk is a step of the semantic state. -/
def Stepped (P : Program) (R : Rel) (f : Ans → Rd Eff) (s : St) (lg : List Loc) (l : List (List Loc × List Loc)) (K : Kont) : Prop :=
  ∃ an, ((f an).run s.sg).ok ∧ K (s.upds ((f an).run s.sg).upd) ((dlocs ((f an).run s.sg).upd ++ ((f an).log s.sg).reverse ++ lg, wlocs ((f an).run s.sg).upd) :: l)
theorem go_fin {s : St} {f : Rd Eff} {lg : List Loc} {l : List (List Loc × List Loc)} {K : Kont} (h : f.go s lg (fin s l K)) : (f.run s.sg).ok ∧ K (s.upds (f.run s.sg).upd) ((dlocs (f.run s.sg).upd ++ (f.log s.sg).reverse ++ lg, wlocs (f.run s.sg).upd) :: l) := by
  rw [Rd.go_iff] at h
  obtain ⟨h1, h2⟩ := h
  exact ⟨h1, by rw [List.append_assoc]; exact h2⟩
theorem aop1_step {P : Program} {R : Rel} {o : Oper} {s : St} {lg : List Loc} {l : List (List Loc × List Loc)} {K : Kont} (h : aop1 P R o s lg l K) : Stepped P R (ostep1 P R o) s lg l K := by
  unfold aop1 at h
  split at h
  · rename_i c a b ho
    split at h
    · rename_i t hs
      have e : ostep1 P R o default = .slot c fun sv _ _ => match sv with
          | .c (.t (.bool t)) => rdS (if t then a else b) fun sv => put o sv [] (sv.row.isSome = true)
          | _ => fail := by simp only [ostep1, ho]
      refine ⟨default, ?_⟩
      rw [e]
      have hs' : s.sg.slot c = .c (.t (.bool t)) := hs
      simp only [Rd.run, Rd.log, hs']
      cases t with
      | true => have := go_fin (h.1 rfl); simpa using this
      | false => have := go_fin (h.2 rfl); simpa using this
    · exact h.elim
  · rename_i g args _ ho
    obtain ⟨an, h⟩ := h
    refine ⟨an, ?_⟩
    have e : ostep1 P R o an = stepCall R o g args.toList an := by simp only [ostep1, ho]
    rw [e]
    exact go_fin h
  · rename_i n args _ ho
    obtain ⟨an, h⟩ := h
    refine ⟨an, ?_⟩
    have e : ostep1 P R o an = stepCallV R o n args.toList an := by simp only [ostep1, ho]
    rw [e]
    exact go_fin h
  · rename_i h1 h2 h3
    refine ⟨default, ?_⟩
    have e : ostep1 P R o default = astep P o := by
      unfold ostep1
      split
      · rename_i ho; exact absurd ho (h1 _ _ _)
      · rename_i ho; exact absurd ho (h2 _ _ _)
      · rename_i ho; exact absurd ho (h3 _ _ _)
      · rfl
    rw [e]
    exact go_fin h
end Vx

namespace Vx
open Go Classical
set_option linter.unusedSimpArgs false
set_option linter.unusedVariables false

theorem skip_step {P : Program} {R : Rel} {ops : List Oper} {o : Oper} {s : St} {l : List (List Loc × List Loc)} {K : Kont} {d : Nat} {f : Ans → Rd Eff} {g : Rd Eff} (hf : ∀ an, (f an).run s.sg = g.run s.sg ∧ (f an).log s.sg = .slot d :: g.log s.sg)
    (h : g.go s [.slot d] (fin s l K)) : Stepped P R f s [] l K := by
  refine ⟨default, ?_⟩
  obtain ⟨h1, h2⟩ := go_fin h
  rw [(hf default).1, (hf default).2]
  refine ⟨h1, ?_⟩
  simpa using h2
theorem aop_step {P : Program} {R : Rel} {ops : List Oper} {o : Oper} {s : St} {l : List (List Loc × List Loc)} {K : Kont} (h : aop P R ops o s l K) : Stepped P R (ostep P R ops o) s [] l K := by
  unfold aop at h
  cases hg : o.guard with
  | none =>
    rw [hg] at h
    have e : ostep P R ops o = ostep1 P R o := by funext an; simp only [ostep, hg]
    rw [e]
    exact aop1_step h
  | some gw =>
    obtain ⟨j, want⟩ := gw
    rw [hg] at h
    simp only at h
    cases hd : (ops[j]?).bind (·.dst) with
    | none => rw [hd] at h; exact h.elim
    | some d =>
      rw [hd] at h
      simp only at h
      have e : ∀ an, ostep P R ops o an = .slot d fun sv _ _ => match sv with
          | .c (.t (.bool b)) => if b = want then ostep1 P R o an else skipOp o
          | .c (.t (.val (.tuple _))) => skipOp o
          | _ => fail := by intro an; simp only [ostep, hg, hd] <;> rfl
      split at h
      · rename_i b hs
        have hs' : s.sg.slot d = .c (.t (.bool b)) := hs
        by_cases hb : b = want
        · obtain ⟨an, h1, h2⟩ := aop1_step (h.1 hb)
          refine ⟨an, ?_⟩
          rw [e]
          simp only [Rd.run, Rd.log, hs', if_pos hb]
          refine ⟨h1, ?_⟩
          simpa using h2
        · refine skip_step (P := P) (R := R) (ops := ops) (o := o) (d := d) (fun an => ?_) (h.2 (by cases b <;> cases want <;> simp_all))
          rw [e]
          simp only [Rd.run, Rd.log, hs', if_neg hb, and_self]
      · rename_i hs
        have hs' : s.sg.slot d = .c (.t (.val (.tuple _))) := hs
        refine skip_step (P := P) (R := R) (ops := ops) (o := o) (d := d) (fun an => ?_) h
        rw [e]
        simp only [Rd.run, Rd.log, hs', and_self]
      · exact h.elim

/-! ## What is to be done, and its record -/
structure Task where
  i : Nat
  f : Rd Eff
  us : List Upd
  rd : List Loc
def Good : Sg → List Task → Prop
  | _, [] => True
  | σ, t :: T => ((t.f.run σ).ok ∧ (t.f.run σ).upd = t.us ∧ (∀ l ∈ t.f.log σ, l ∈ t.rd) ∧ ∀ l ∈ dlocs t.us, l ∈ t.rd) ∧ Good (σ.upds t.us) T
def after (σ : Sg) (T : List Task) : Sg := T.foldl (fun σ t => σ.upds t.us) σ
structure Indep (t u : Task) : Prop where
  ww : ∀ l, Wr t.us l → ¬ Wr u.us l
  rw : ∀ l ∈ t.rd, ¬ Wr u.us l
  wr : ∀ l ∈ u.rd, ¬ Wr t.us l

theorem aops_steps {P : Program} {R : Rel} {ops : List Oper} : ∀ {rem : List Oper} {s : St} {l : List (List Loc × List Loc)} {K : Kont} (i : Nat), aops P R ops rem s l K →
    ∃ T : List Task, Good s.sg T ∧ T.map (·.i) = List.range' i rem.length ∧ (∀ t ∈ T, ∃ o an, rem[t.i - i]? = some o ∧ i ≤ t.i ∧ t.f = ostep P R ops o an) ∧
      ∃ s', s'.sg = after s.sg T ∧ K s' ((T.map fun t => (t.rd, wlocs t.us)).reverse ++ l)
  | [], s, l, K, i, h => ⟨[], trivial, rfl, (by simp), s, rfl, h⟩
  | o :: rem, s, l, K, i, h => by
    simp only [aops] at h
    obtain ⟨an, h1, h2⟩ := aop_step h
    obtain ⟨T, t1, t2, t3, s', t4, t5⟩ := aops_steps (i + 1) h2
    let u : Task := ⟨i, ostep P R ops o an, ((ostep P R ops o an).run s.sg).upd, dlocs ((ostep P R ops o an).run s.sg).upd ++ ((ostep P R ops o an).log s.sg).reverse ++ []⟩
    refine ⟨u :: T, ⟨⟨h1, rfl, fun l hl => by simp [u, hl], fun l hl => by simp [u]; exact .inl hl⟩, ?_⟩, ?_, ?_, s', ?_, ?_⟩
    · rw [← St.upds_sg]; exact t1
    · simp [t2, List.range'_succ, u]
    · intro t ht
      rcases List.mem_cons.1 ht with e | e
      · subst e; exact ⟨o, an, by simp [u], Nat.le_refl _, rfl⟩
      · obtain ⟨o', an', q1, q2, q3⟩ := t3 t e
        exact ⟨o', an', by rw [show t.i - i = (t.i - (i + 1)) + 1 by omega]; simpa using q1, by omega, q3⟩
    · rw [t4, St.upds_sg]; rfl
    · simpa [u] using t5

theorem Good.take : ∀ {A : List Task} {t : Task} {B : List Task} {σ : Sg}, Good σ (A ++ t :: B) → (∀ a ∈ A, Indep a t) →
    ((t.f.run σ).ok ∧ (t.f.run σ).upd = t.us ∧ (∀ l ∈ t.f.log σ, l ∈ t.rd) ∧ ∀ l ∈ dlocs t.us, l ∈ t.rd) ∧ Good (σ.upds t.us) (A ++ B) ∧ after (σ.upds t.us) (A ++ B) = after σ (A ++ t :: B)
  | [], t, B, σ, h, _ => ⟨h.1, h.2, rfl⟩
  | a :: A, t, B, σ, h, hi => by
    obtain ⟨⟨a1, a2, a3, a4⟩, hA⟩ := h
    obtain ⟨⟨t1, t2, t3, t4⟩, g1, g2⟩ := Good.take hA fun b hb => hi b (by simp [hb])
    have hat := hi a (by simp)
    have hcomm : (σ.upds a.us).upds t.us = (σ.upds t.us).upds a.us := upds_comm σ hat.ww (fun l hl => hat.rw l (a4 l hl)) (fun l hl => hat.wr l (t4 l hl))
    obtain ⟨e1, e2⟩ := Rd.same t.f (σ := σ.upds a.us) (τ := σ) fun l hl => upds_frame (hat.wr l (t3 l hl))
    obtain ⟨f1, f2⟩ := Rd.same a.f (σ := σ) (τ := σ.upds t.us) fun l hl => (upds_frame (hat.rw l (a3 l hl))).symm
    refine ⟨⟨by rw [e1]; exact t1, by rw [e1]; exact t2, by rw [e2]; exact t3, t4⟩, ⟨⟨by rw [f1]; exact a1, by rw [f1]; exact a2, by rw [f2]; exact a3, a4⟩, ?_⟩, ?_⟩
    · rw [← hcomm]; exact g1
    · show after ((σ.upds t.us).upds a.us) (A ++ B) = after (σ.upds a.us) (A ++ t :: B)
      rw [← hcomm]; exact g2

/-- A task's operation is sound. -/
def Sound (E : Env) (N : Nat) (ops : Array Oper) (Q : Exit → Act → World → Prop) (t : Task) : Prop :=
  ∀ (σ : Sg) (a : Act) (w : World) (g : Gh) (K : Act → World → Prop), (t.f.run σ).ok → Core E σ a.tmps w g → a.tmps.size = N → LIM ≤ g.lim →
    (∀ a' w' g', Core E (σ.upds (t.f.run σ).upd) a'.tmps w' g' → Move w g w' g' → a'.tmps.size = N → a'.defers = a.defers → K a' w') → wpOp E.P ops Q t.i K a w

theorem seq_ok {E : Env} {N : Nat} {ops : Array Oper} {Q : Exit → Act → World → Prop} : ∀ {T : List Task} {σ : Sg} {a : Act} {w : World} {g : Gh}, Good σ T → (∀ t ∈ T, Sound E N ops Q t) → Core E σ a.tmps w g → a.tmps.size = N → LIM ≤ g.lim →
    (∀ a' w' g', Core E (after σ T) a'.tmps w' g' → Move w g w' g' → a'.tmps.size = N → a'.defers = a.defers → Q .normal a' w') → wpOps E.P ops Q (T.map (·.i)) a w
  | [], σ, a, w, g, _, _, hc, hs, hl, hK => hK a w g hc (Move.refl _ _) hs rfl
  | t :: T, σ, a, w, g, hg, hT, hc, hs, hl, hK => by
    obtain ⟨⟨h1, h2, _, _⟩, h5⟩ := hg
    rw [List.map_cons, wpOps_cons]
    refine hT t (by simp) σ a w g _ h1 hc hs hl fun a' w' g' hc' hm hs' hd => ?_
    rw [h2] at hc'
    exact seq_ok h5 (fun u hu => hT u (by simp [hu])) hc' hs' (by rw [hm.lim]; exact hl) fun a2 w2 g2 c2 m2 s2 d2 => hK a2 w2 g2 c2 (hm.trans m2) s2 (d2.trans hd)

/-! ## Any order -/
def Closed (ops : Array Oper) (listed : Array Bool) : Prop :=
  ∀ i o e, listed.getD i true = true → ops[i]? = some o → e ∈ o.after → Region.binds .any e = true → listed.getD e.on false = true
theorem listed_lt {listed : Array Bool} {i : Nat} (h : listed.getD i false = true) : i < listed.size := by
  rcases Nat.lt_or_ge i listed.size with k | k
  · exact k
  · simp [Array.getElem?_eq_none k] at h
theorem afterB_listed {ops : Array Oper} {listed : Array Bool} (hc : Closed ops listed) : ∀ (f i j : Nat), (∀ o e, ops[i]? = some o → e ∈ o.after → Region.binds .any e = true → listed.getD e.on false = true) → afterB ops.toList f i j = true → listed.getD j false = true
  | 0, i, j, _, h => by simp [afterB] at h
  | f + 1, i, j, hi, h => by
    simp only [afterB] at h
    split at h
    · rename_i o ho
      have ho' : ops[i]? = some o := by simpa using ho
      simp only [List.any_eq_true, Bool.and_eq_true, Bool.or_eq_true, beq_iff_eq] at h
      obtain ⟨e, he, hb, h⟩ := h
      have hl := hi o e ho' (by simpa using he) hb
      rcases h with h | h
      · rw [← h]; exact hl
      · refine afterB_listed hc f e.on j (fun o' e' ho'' he' hb' => hc e.on o' e' ?_ ho'' he' hb') h
        have := listed_lt hl
        simp only [Array.getD_eq_getD_getElem?, Array.getElem?_eq_getElem this, Option.getD_some] at hl ⊢
        exact hl
    · cases h

theorem any_ok {E : Env} {N : Nat} {ops : Array Oper} {Q : Exit → Act → World → Prop} (hdown : ∀ (i : Nat) (o : Oper), ops[i]? = some o → ∀ e ∈ o.after, Region.binds .any e = true → e.on < i) : ∀ (fuel : Nat) (listed : Array Bool) (T : List Task) (σ : Sg) (a : Act) (w : World) (g : Gh),
    listed.size = ops.size → Closed ops listed → T.length ≤ fuel → (T.map (·.i)).Pairwise (· < ·) → (∀ i, (∃ t ∈ T, t.i = i) ↔ listed.getD i true = false) →
    Good σ T → (T.Pairwise fun t u => afterB ops.toList ops.size u.i t.i = false → Indep t u) → (∀ t ∈ T, Sound E N ops Q t) → Core E σ a.tmps w g → a.tmps.size = N → LIM ≤ g.lim →
    (∀ a' w' g', Core E (after σ T) a'.tmps w' g' → Move w g w' g' → a'.tmps.size = N → a'.defers = a.defers → Q .normal a' w') → wpAny E.P .any ops Q fuel listed a w := by
  intro fuel
  induction fuel with
  | zero =>
    intro listed T σ a w g hsz hcl hlen hsort hT hg hind hs hc hN hl hK
    have : T = [] := List.length_eq_zero_iff.1 (by omega)
    subst this
    refine ⟨List.eq_nil_iff_forall_not_mem.2 fun j hj => ?_, hK a w g hc (Move.refl _ _) hN rfl⟩
    obtain ⟨t, ht, _⟩ := (hT j).2 (mem_ready.1 hj).1
    cases ht
  | succ fuel ih =>
    intro listed T σ a w g hsz hcl hlen hsort hT hg hind hs hc hN hl hK
    refine ⟨fun hr => ?_, fun i hi => ?_⟩
    · cases T with
      | nil => exact hK a w g hc (Move.refl _ _) hN rfl
      | cons t T =>
        exfalso
        have hti := (hT t.i).1 ⟨t, by simp, rfl⟩
        have hlt : t.i < ops.size := by
          rcases Nat.lt_or_ge t.i listed.size with k | k
          · omega
          · simp [Array.getElem?_eq_none k] at hti
        have : t.i ∈ Region.ready .any ops listed := by
          refine mem_ready.2 ⟨hti, ops[t.i], Array.getElem?_eq_getElem hlt, fun e he hb => ?_⟩
          have hlow := hdown t.i _ (Array.getElem?_eq_getElem hlt) e he hb
          have hel : e.on < listed.size := by omega
          cases hle : listed.getD e.on false with
          | true => rfl
          | false =>
            have : listed.getD e.on true = false := by
              simp only [Array.getD_eq_getD_getElem?, Array.getElem?_eq_getElem hel, Option.getD_some] at hle ⊢
              exact hle
            obtain ⟨u, hu, hue⟩ := (hT e.on).2 this
            rcases List.mem_cons.1 hu with q | q
            · subst q; omega
            · simp only [List.map_cons, List.pairwise_cons] at hsort
              have := hsort.1 u.i (List.mem_map.2 ⟨u, q, rfl⟩)
              omega
        rw [hr] at this
        cases this
    · obtain ⟨h0, o, ho, hall⟩ := mem_ready.1 hi
      obtain ⟨t, ht, hti⟩ := (hT i).2 h0
      subst hti
      obtain ⟨A, B, rfl⟩ := List.append_of_mem ht
      have hnot : ∀ u ∈ A, Indep u t := by
        intro u hu
        rw [List.pairwise_append] at hind
        refine hind.2.2 u hu t (by simp) ?_
        cases hab : afterB ops.toList ops.size t.i u.i with
        | false => rfl
        | true =>
          exfalso
          have := afterB_listed hcl _ t.i u.i (fun o' e ho' he hb => by rw [ho] at ho'; cases ho'; exact hall e he hb) hab
          have h2 := (hT u.i).1 ⟨u, by simp [hu], rfl⟩
          have hlt := listed_lt this
          simp only [Array.getD_eq_getD_getElem?, Array.getElem?_eq_getElem hlt, Option.getD_some] at this h2
          rw [this] at h2
          cases h2
      obtain ⟨⟨t1, t2, _, _⟩, g1, g2⟩ := hg.take hnot
      refine hs t ht σ a w g _ t1 hc hN hl fun a' w' g' hc' hm hs' hd => ?_
      rw [t2] at hc'
      have hsub : (A ++ B).Sublist (A ++ t :: B) := List.Sublist.append_left (List.sublist_cons_self _ _) _
      have hlti : t.i < listed.size := by
        rcases Nat.lt_or_ge t.i listed.size with k | k
        · exact k
        · simp [Array.getElem?_eq_none k] at h0
      refine ih (listed.setIfInBounds t.i true) (A ++ B) (σ.upds t.us) a' w' g' (by simpa using hsz) ?_ (by simp at hlen ⊢; omega) (hsort.sublist (hsub.map _)) (fun j => ?_) g1 (hind.sublist hsub) (fun u hu => hs u (hsub.subset hu)) hc' hs' (by rw [hm.lim]; exact hl) (fun a2 w2 g2' c2 m2 s2 d2 => hK a2 w2 g2' (by rw [← g2]; exact c2) (hm.trans m2) s2 (d2.trans hd))
      · intro j o' e hj ho' he hb
        by_cases hjt : t.i = j
        · subst hjt
          rw [ho] at ho'
          cases ho'
          exact getD_set_true (hall e he hb)
        · rw [getD_set_ne true hjt] at hj
          exact getD_set_true (hcl j o' e hj ho' he hb)
      · by_cases hjt : t.i = j
        · subst hjt
          constructor
          · rintro ⟨u, hu, e⟩
            exfalso
            rw [List.map_append, List.map_cons, List.pairwise_append] at hsort
            rcases List.mem_append.1 hu with q | q
            · have := hsort.2.2 u.i (List.mem_map.2 ⟨u, q, rfl⟩) t.i (by simp)
              omega
            · have := (List.pairwise_cons.1 hsort.2.1).1 u.i (List.mem_map.2 ⟨u, q, rfl⟩)
              omega
          · intro h
            simp [hlti] at h
        · rw [getD_set_ne true hjt, ← hT j]
          constructor
          · rintro ⟨u, hu, e⟩
            exact ⟨u, hsub.subset hu, e⟩
          · rintro ⟨u, hu, e⟩
            refine ⟨u, ?_, e⟩
            simp only [List.mem_append, List.mem_cons] at hu ⊢
            rcases hu with q | q | q
            · exact .inl q
            · subst q; exact absurd e hjt
            · exact .inr q
end Vx

namespace Vx
open Go Classical
set_option linter.unusedSimpArgs false
set_option linter.unusedVariables false

theorem Core.heap {E : Env} {σ : Sg} {tmps : Array Value} {w w' : World} {g : Gh} (hc : Core E σ tmps w g) (h : w'.heap = w.heap) : Core E σ tmps w' g :=
  Core.step hc ⟨Nat.le_refl _, fun b _ h' => ⟨h', by rw [h]⟩, fun r c _ h' => ⟨h', fun _ => rfl⟩, fun _ _ => rfl⟩
    (fun n => .inl ⟨rfl, rfl, rfl, fun c => ⟨fun b p _ h' => ⟨h', by rw [h]⟩, fun _ => rfl⟩⟩)
    (fun k kd h' => .inl ⟨h', fun c => ⟨rfl, ⟨fun b p _ h' => ⟨h', by rw [h]⟩, fun _ => rfl⟩⟩, fun _ h' => ⟨h', by rw [h]⟩⟩) (fun k c => .inl rfl)
    (fun k es h' => .inl ⟨h', fun _ h' => ⟨h', by rw [h]⟩⟩) (fun _ h => h) (fun b _ => ⟨rfl, by rw [h]⟩) (by rw [h]; exact Nat.le_refl _)
theorem Move.heap {w w' w'' : World} {g g' : Gh} (h : w'.heap = w.heap) (he : w'.os = w.os ∧ w'.tape = w.tape ∧ w'.output = w.output) (m : Move w' g w'' g') : Move w g w'' g' :=
  ⟨by rw [← h]; exact m.size, m.lim, fun b hb ho => by rw [← h]; exact m.keep b (by rw [h]; exact hb) ho, m.bl, fun b k hb hk ho => by
    obtain ⟨e1, e2⟩ := m.box b k (by rw [h]; exact hb) hk ho
    exact ⟨e1, fun cs el fr hh => e2 cs el fr (by rw [h]; exact hh)⟩, m.env.1.trans he.1, m.env.2.1.trans he.2.1, m.env.2.2.trans he.2.2⟩

theorem indepFrom_spec {ops : List Oper} {j : Nat} {x : List Loc × List Loc} : ∀ {l : List (List Loc × List Loc)} {i : Nat}, l.length = i + 1 ∨ l = [] → indepFrom ops j x i l = true → ∀ k y, l[k]? = some y →
    afterB ops ops.length j (i - k) = false → meets y.2 x.1 = false ∧ meets y.2 x.2 = false ∧ meets x.2 y.2 = false ∧ meets x.2 y.1 = false
  | [], i, _, _, k, y, hk, _ => by simp at hk
  | z :: l, i, hl, h, k, y, hk, ha => by
    simp only [indepFrom, Bool.and_eq_true, Bool.or_eq_true, Bool.not_eq_true'] at h
    cases k with
    | zero =>
      simp at hk
      subst hk
      rcases h.1 with h1 | h1
      · simpa [Bool.or_eq_false_iff, and_assoc] using h1
      · rw [Nat.sub_zero] at ha
        rw [ha] at h1; cases h1
    | succ k =>
      refine indepFrom_spec (l := l) (i := i - 1) ?_ h.2 k y (by simpa using hk) (by rw [← ha]; congr 1; omega)
      rcases hl with hl | hl
      · cases l with
        | nil => exact .inr rfl
        | cons _ l => left; simp at hl ⊢; omega
      · cases hl
theorem indepAll_spec {ops : List Oper} : ∀ {M : List (List Loc × List Loc)}, indepAll ops M = true → ∀ i j y x, i < j → M.reverse[i]? = some y → M.reverse[j]? = some x → afterB ops ops.length j i = false →
    meets y.2 x.1 = false ∧ meets y.2 x.2 = false ∧ meets x.2 y.2 = false ∧ meets x.2 y.1 = false
  | [], _, i, j, y, x, _, h, _, _ => by simp at h
  | z :: M, h, i, j, y, x, hij, hi, hj, ha => by
    simp only [indepAll, Bool.and_eq_true] at h
    rw [List.reverse_cons] at hi hj
    have hjl := lt_of_getElem? hj
    simp at hjl
    have hil : i < M.reverse.length := by simp; omega
    rw [List.getElem?_append_left hil] at hi
    by_cases hjm : j < M.length
    · rw [List.getElem?_append_left (by simpa using hjm)] at hj
      exact indepAll_spec h.2 i j y x hij hi hj ha
    · have hje : j = M.length := by omega
      subst hje
      rw [List.getElem?_append_right (by simp)] at hj
      simp at hj
      subst hj
      have hil' : i < M.length := by simpa using hil
      have hk : M[M.length - 1 - i]? = some y := by
        rw [List.getElem?_reverse hil'] at hi
        exact hi
      refine indepFrom_spec (i := M.length - 1) (l := M) (by cases M with | nil => exact .inr rfl | cons _ M => left; simp) h.1 (M.length - 1 - i) y hk ?_
      rw [show M.length - 1 - (M.length - 1 - i) = i by omega]
      exact ha
theorem edgesDown_spec : ∀ {l : List Oper} {k : Nat}, edgesDown k l = true → ∀ i o, l[i]? = some o → ∀ e ∈ o.after, Region.binds .any e = true → e.on < k + i
  | [], k, _, i, o, h => by simp at h
  | o' :: l, k, hd, i, o, h => by
    simp only [edgesDown, Bool.and_eq_true, List.all_eq_true, Bool.or_eq_true, Bool.not_eq_true', decide_eq_true_eq] at hd
    intro e he hb
    cases i with
    | zero =>
      simp at h
      subst h
      rcases hd.1 e (by simpa using he) with q | q
      · rw [hb] at q; cases q
      · omega
    | succ i =>
      have := edgesDown_spec hd.2 i o (by simpa using h) e he hb
      omega

/-- A region. -/
theorem region_wp {E : Env} {N : Nat} {R : Rel} {ops : Array Oper} {id : Nat} {draw : Bool} {Q : Exit → Act → World → Prop} (hmix : E.P.follows .mixedOrders = true)
    (hS : ∀ (i : Nat) (o : Oper) (an : Ans) (us : List Upd) (rd : List Loc), ops[i]? = some o → Sound E N ops Q ⟨i, ostep E.P R ops.toList o an, us, rd⟩)
    {s : St} {K : St → Prop} (h : aops E.P R ops.toList ops.toList s [] fun s l => (draw = true → indep ops.toList l = true) ∧ K s) {a : Act} {w : World} {g : Gh}
    (hc : Core E s.sg a.tmps w g) (hs : a.tmps.size = N) (hl : LIM ≤ g.lim)
    (hK : ∀ s' a' w' g', K s' → Core E s'.sg a'.tmps w' g' → Move w g w' g' → a'.tmps.size = N → a'.defers = a.defers → Q .normal a' w') : (Code.region id ops draw).wp E.P Q a w := by
  obtain ⟨T, hg, hi, hT, s', hs', hd, hk⟩ := aops_steps 0 h
  have hlen : T.length = ops.size := by
    have := congrArg List.length hi
    simpa using this
  have hidx : ∀ (j : Nat) (t : Task), T[j]? = some t → t.i = j := by
    intro j t hj
    have : (T.map (·.i))[j]? = some t.i := by simp [hj]
    have hlt := lt_of_getElem? hj
    rw [hi] at this
    simp only [Array.length_toList] at this
    rw [List.getElem?_range'] at this
    · simp only [Option.some.injEq] at this; omega
    · omega
  have hsound : ∀ t ∈ T, Sound E N ops Q t := by
    intro t ht
    obtain ⟨o, an, h1, _, h3⟩ := hT t ht
    have := hS t.i o an t.us t.rd (by simpa using h1)
    rw [← h3] at this
    exact this
  have hend : ∀ (a' : Act) (w' : World) (g' : Gh), Core E (after s.sg T) a'.tmps w' g' → Move w g w' g' → a'.tmps.size = N → a'.defers = a.defers → Q .normal a' w' := by
    intro a' w' g' c m z d
    rw [← hs'] at c
    exact hK s' a' w' g' hk c m z d
  cases draw with
  | false =>
    apply wp_region
    have : List.range ops.size = T.map (·.i) := by rw [hi, List.range_eq_range']; simp
    rw [this]
    exact seq_ok hg hsound hc hs hl hend
  | true =>
    have hin := hd rfl
    simp only [indep, Bool.and_eq_true, List.append_nil] at hin
    obtain ⟨hdn, hall⟩ := hin
    apply wp_region_any hmix
    refine any_ok (N := N) (fun i o ho e he hb => ?_) ops.size (Array.replicate ops.size false) T s.sg a _ g (by simp) (fun i o e hi' => ?_) (by omega) (by rw [hi]; exact List.pairwise_lt_range') (fun i => ?_) hg ?_ hsound (hc.heap rfl) hs hl
      (fun a' w' g' c m z d => hend a' w' g' c (Move.heap (w := w) (w' := { w with drawn := w.drawn + 1 }) rfl ⟨rfl, rfl, rfl⟩ m) z d)
    · have := edgesDown_spec hdn i o (by simpa using ho) e he hb
      omega
    · rcases Nat.lt_or_ge i ops.size with k | k
      · simp [k] at hi'
      · intro ho
        rw [Array.getElem?_eq_none k] at ho
        cases ho
    · constructor
      · rintro ⟨t, ht, rfl⟩
        obtain ⟨j, hj⟩ := List.getElem?_of_mem ht
        have := hidx j t hj
        have hlt := lt_of_getElem? hj
        rw [this]
        simp [show j < ops.size by omega]
      · intro h0
        rcases Nat.lt_or_ge i ops.size with k | k
        · have hlt : i < T.length := by omega
          exact ⟨T[i], List.getElem_mem _, hidx i _ (List.getElem?_eq_getElem hlt)⟩
        · simp [show ¬ i < ops.size by omega] at h0
    · rw [List.pairwise_iff_getElem]
      intro i j hi' hj' hij haf
      have ti : T[i].i = i := hidx i _ (List.getElem?_eq_getElem hi')
      have tj : T[j].i = j := hidx j _ (List.getElem?_eq_getElem hj')
      rw [ti, tj] at haf
      obtain ⟨m1, m2, m3, m4⟩ := indepAll_spec hall i j (T[i].rd, wlocs T[i].us) (T[j].rd, wlocs T[j].us) hij (by simp [hi']) (by simp [hj']) (by simpa using haf)
      exact ⟨meets_wrs m2 m3, meets_wr m4, meets_wr m1⟩
end Vx

namespace Vx
open Go Classical
set_option linter.unusedSimpArgs false
set_option linter.unusedVariables false

/-! ## The end of a region: new places become old ones -/
theorem mem_newKeys {α : Type} {j : Nat} : ∀ {l : List (Nat × α)}, j ∈ newKeys l ↔ 1000 ≤ j ∧ (lk (j + 99000) l).isSome = true
  | [] => by simp [newKeys, lk]
  | (k, x) :: l => by
    have ih := mem_newKeys (j := j) (l := l)
    simp only [newKeys, lk]
    by_cases h : 100000 ≤ k
    · rw [if_pos h]
      simp only [List.mem_cons, ih]
      by_cases e : j + 99000 = k
      · rw [if_pos e]; simp; omega
      · rw [if_neg e]
        have : j ≠ k - 99000 := by omega
        simp [this]
    · rw [if_neg h, ih]
      by_cases e : j + 99000 = k
      · rw [if_pos e]
        constructor
        · rintro ⟨h1, _⟩; omega
        · rintro ⟨h1, _⟩; omega
      · rw [if_neg e]

section
variable (s : St)
def St.nb : List Nat := newKeys s.ob ++ newKeys s.mp
theorem mem_nb {j : Nat} : j ∈ s.nb ↔ 1000 ≤ j ∧ ((lk (j + 99000) s.ob).isSome = true ∨ (lk (j + 99000) s.mp).isSome = true) := by
  simp only [St.nb, List.mem_append, mem_newKeys]
  constructor
  · rintro (⟨h1, h2⟩ | ⟨h1, h2⟩)
    · exact ⟨h1, .inl h2⟩
    · exact ⟨h1, .inr h2⟩
  · rintro ⟨h1, h2 | h2⟩
    · exact .inl ⟨h1, h2⟩
    · exact .inr ⟨h1, h2⟩
end
theorem movedK_iff {nb : List Nat} {k : Nat} : movedK nb k = true ↔ 100000 ≤ k ∧ (k - 99000) ∈ nb := by simp [movedK]
theorem deadK_iff {nb : List Nat} {k : Nat} : deadK nb k = true ↔ k ∈ nb ∧ ¬ movedK nb k = true := by simp [deadK]
theorem keyK_moved {nb : List Nat} {k : Nat} (h : movedK nb k = true) : keyK nb k = k - 99000 := by simp [keyK, h]
theorem keyK_stay {nb : List Nat} {k : Nat} (h : ¬ movedK nb k = true) : keyK nb k = k := by simp [keyK, h]
theorem moved_back {nb : List Nat} (hnb : ∀ j ∈ nb, 1000 ≤ j) {j : Nat} (h : j ∈ nb) : movedK nb (j + 99000) = true := by
  rw [movedK_iff]
  have := hnb j h
  exact ⟨by omega, by simpa using h⟩

theorem lk_fix {α β : Type} {nb : List Nat} (hnb : ∀ j ∈ nb, 1000 ≤ j) (f : α → β) (F : List (Nat × α) → List (Nat × β)) (h0 : F [] = [])
    (h1 : ∀ k x l, F ((k, x) :: l) = if deadK nb k then F l else (keyK nb k, f x) :: F l) : ∀ (l : List (Nat × α)) (k' : Nat),
    lk k' (F l) = if k' ∈ nb then (lk (k' + 99000) l).map f else if movedK nb k' = true then none else (lk k' l).map f
  | [], k' => by rw [h0]; simp [lk]
  | (k, x) :: l, k' => by
    have ih := lk_fix hnb f F h0 h1 l k'
    rw [h1]
    by_cases hd : deadK nb k = true
    · rw [if_pos hd, ih]
      obtain ⟨d1, d2⟩ := deadK_iff.1 hd
      have e1 : ¬ (k' ∈ nb ∧ k' + 99000 = k) := by
        rintro ⟨q1, rfl⟩
        exact d2 (moved_back hnb q1)
      simp only [lk]
      by_cases hk : k' ∈ nb
      · rw [if_pos hk, if_pos hk, if_neg (fun q => e1 ⟨hk, q⟩)]
      · rw [if_neg hk, if_neg hk, if_neg (fun q : k' = k => hk (q ▸ d1))]
    · rw [if_neg hd]
      simp only [lk]
      by_cases hm : movedK nb k = true
      · rw [keyK_moved hm]
        obtain ⟨m1, m2⟩ := movedK_iff.1 hm
        by_cases e : k' = k - 99000
        · have e' : k' + 99000 = k := by omega
          have m2' : k' ∈ nb := by rw [e]; exact m2
          simp only [if_pos e, if_pos m2', if_pos e', Option.map_some]
        · rw [if_neg e, ih]
          by_cases hk : k' ∈ nb
          · rw [if_pos hk, if_pos hk, if_neg (by omega)]
          · rw [if_neg hk, if_neg hk]
            by_cases hmk : movedK nb k' = true
            · rw [if_pos hmk, if_pos hmk]
            · rw [if_neg hmk, if_neg hmk, if_neg (by intro q; subst q; exact hmk hm)]
      · rw [keyK_stay hm]
        have hknb : k ∉ nb := fun q => hd (deadK_iff.2 ⟨q, hm⟩)
        by_cases e : k' = k
        · subst e
          rw [if_pos rfl, if_neg hknb, if_neg hm, if_pos rfl, Option.map_some]
        · rw [if_neg e, ih]
          by_cases hk : k' ∈ nb
          · rw [if_pos hk, if_pos hk, if_neg]
            rintro rfl
            exact hm (moved_back hnb hk)
          · rw [if_neg hk, if_neg hk, if_neg e]
theorem lk_fixOb {nw nb : List Nat} {di : List (Root × Nat)} (hnb : ∀ j ∈ nb, 1000 ≤ j) (l : List (Nat × List C)) (k' : Nat) :
    lk k' (fixOb nw nb di l) = if k' ∈ nb then (lk (k' + 99000) l).map (·.map (fixC nw nb di)) else if movedK nb k' = true then none else (lk k' l).map (·.map (fixC nw nb di)) :=
  lk_fix hnb (·.map (fixC nw nb di)) (fixOb nw nb di) rfl (fun _ _ _ => rfl) l k'
theorem lk_fixMp {nb : List Nat} (hnb : ∀ j ∈ nb, 1000 ≤ j) (l : List (Nat × List (T × T))) (k' : Nat) :
    lk k' (fixMp nb l) = if k' ∈ nb then lk (k' + 99000) l else if movedK nb k' = true then none else lk k' l := by
  have := lk_fix hnb id (fixMp nb) rfl (fun _ _ _ => rfl) l k'
  simpa using this
theorem lk_fixVi {nw nb : List Nat} {di : List (Root × Nat)} : ∀ (l : List (Nat × C)) (k' : Nat), lk k' (fixVi nw nb di l) = if k' ∈ nb ∨ movedK nb k' = true then none else (lk k' l).map (fixC nw nb di)
  | [], k' => by simp [fixVi, lk]
  | (k, x) :: l, k' => by
    have ih := lk_fixVi (nw := nw) (nb := nb) (di := di) l k'
    simp only [fixVi]
    by_cases h : (nb.contains k || movedK nb k) = true
    · rw [if_pos h, ih]
      have h' : k ∈ nb ∨ movedK nb k = true := by simpa using h
      by_cases e : k' = k
      · subst e; rw [if_pos h', if_pos h']
      · simp only [lk, if_neg e]
    · rw [if_neg h]
      have h' : ¬ (k ∈ nb ∨ movedK nb k = true) := by simpa using h
      by_cases e : k' = k
      · subst e; simp only [lk, if_true, if_neg h']; rfl
      · simp only [lk, if_neg e, ih]
theorem lk_fixSl {keep nw nb : List Nat} {di : List (Root × Nat)} : ∀ (l : List (Nat × SV)) (n : Nat), lk n (fixSl keep nw nb di l) = if n ∈ keep then (lk n l).map (fixSV nw nb di) else none
  | [], n => by simp [fixSl, lk]
  | (m, x) :: l, n => by
    have ih := lk_fixSl (keep := keep) (nw := nw) (nb := nb) (di := di) l n
    simp only [fixSl]
    by_cases h : keep.contains m = true
    · rw [if_pos h]
      have h' : m ∈ keep := by simpa using h
      by_cases e : n = m
      · subst e; simp [lk, h']
      · simp only [lk, if_neg e, ih]
    · rw [if_neg h, ih]
      have h' : m ∉ keep := by simpa using h
      by_cases e : n = m
      · subst e; rw [if_neg h', if_neg h']
      · simp only [lk, if_neg e]

/-- The renaming of the places. -/
def fixRen (nw nb : List Nat) (hnb : ∀ j ∈ nb, 1000 ≤ j) : Ren where
  S a := match a.root with
    | .new n => n ∈ nw
    | .obj k => movedK nb k = true
    | _ => False
  D a := match a.root with
    | .slot n => n ∈ nw
    | .obj k => k ∈ nb
    | _ => False
  f a := fixA nb a
  fi a := match a.root with
    | .slot n => { a with root := .new n }
    | .obj k => { a with root := .obj (k + 99000) }
    | _ => a
  inv := by
    rintro ⟨r, c, p⟩ h
    cases r with
    | new n => exact ⟨h, rfl⟩
    | obj k =>
      have h : movedK nb k = true := h
      obtain ⟨h1, h2⟩ := movedK_iff.1 h
      refine ⟨?_, ?_⟩
      · show keyK nb k ∈ nb
        rw [keyK_moved h]; exact h2
      · show (⟨Root.obj (keyK nb k + 99000), c, p⟩ : CA) = _
        rw [keyK_moved h, Nat.sub_add_cancel (by omega)]
    | slot n => exact h.elim
    | ret => exact h.elim
  hop := by
    rintro ⟨r, c, p⟩ h x
    exact ⟨h, rfl⟩
def Tag.fix (nb : List Nat) : Tag → Tag
  | .box k => if movedK nb k = true then .box (k - 99000) else if k ∈ nb then .other else .box k
  | t => t
noncomputable def fixGh (nw nb : List Nat) (hnb : ∀ j ∈ nb, 1000 ≤ j) (g : Gh) : Gh :=
  { g.ren (fixRen nw nb hnb) with
    ow := fun b => ((g.ren (fixRen nw nb hnb)).ow b).fix nb
    bl := fun j => if j ∈ nb then g.bl (j + 99000) else g.bl j }

section
variable {nw nb : List Nat} {hnb : ∀ j ∈ nb, 1000 ≤ j} {w : World} {g : Gh} {d : Dirt} {di : List (Root × Nat)}
theorem fixGh_fz {b : Nat} (h : g.ow b = .frozen) : (fixGh nw nb hnb g).ow b = .frozen := by simp [fixGh, Gh.ren, h, Tag.fix]
theorem fixGh_other {b : Nat} (h : g.ow b = .other) : (fixGh nw nb hnb g).ow b = .other := by simp [fixGh, Gh.ren, h, Tag.fix]
theorem fixGh_box {b k : Nat} (h : g.ow b = .box k) (hd : deadK nb k = false) : (fixGh nw nb hnb g).ow b = .box (keyK nb k) := by
  simp only [fixGh, Gh.ren, h, Tag.fix]
  by_cases hm : movedK nb k = true
  · rw [if_pos hm, keyK_moved hm]
  · rw [if_neg hm, keyK_stay hm, if_neg]
    intro q
    rw [deadK_iff.2 ⟨q, hm⟩] at hd
    cases hd
theorem fixGh_bl {k : Nat} (hd : deadK nb k = false) : (fixGh nw nb hnb g).bl (keyK nb k) = g.bl k := by
  show (if keyK nb k ∈ nb then g.bl (keyK nb k + 99000) else g.bl (keyK nb k)) = _
  by_cases hm : movedK nb k = true
  · obtain ⟨h1, h2⟩ := movedK_iff.1 hm
    rw [keyK_moved hm, if_pos h2, Nat.sub_add_cancel (by omega)]
  · rw [keyK_stay hm, if_neg]
    intro q
    rw [deadK_iff.2 ⟨q, hm⟩] at hd
    cases hd
theorem Rep.fixG {a : CA} {t : T} {v : Value} (h : Rep w (g.ren (fixRen nw nb hnb)) a t v) : Rep w (fixGh nw nb hnb g) a t v := by
  refine h.frame (Nat.le_refl _) (fun b _ ho => ⟨?_, rfl⟩) (fun b a' _ _ ho => ⟨?_, rfl⟩) (fun _ _ => rfl)
  · show ((g.ren (fixRen nw nb hnb)).ow b).fix nb = .frozen
    rw [ho]; rfl
  · show ((g.ren (fixRen nw nb hnb)).ow b).fix nb = .own a'
    rw [ho]; rfl

/-- A root that stays or moves. -/
def Fine (nw nb : List Nat) (r : Root) : Prop := isNewOf nw r = false ∧ deadR nb r = false ∧ ∀ n, r = .new n → n ∈ nw
theorem fine_stay {r : Root} (h : Fine nw nb r) {c : Nat} {p : List Hop} (hS : ¬ (fixRen nw nb hnb).S ⟨r, c, p⟩) : ¬ (fixRen nw nb hnb).D ⟨r, c, p⟩ ∧ fixR nb r = r := by
  obtain ⟨h1, h2, h3⟩ := h
  cases r with
  | slot n => exact ⟨fun q => by have : n ∈ nw := q; simp [isNewOf, this] at h1, rfl⟩
  | new n => exact absurd (h3 n rfl) hS
  | obj k =>
    have hm : ¬ movedK nb k = true := hS
    refine ⟨fun q => ?_, by simp only [fixR, keyK_stay hm]⟩
    have hd := deadK_iff.2 ⟨show k ∈ nb from q, hm⟩
    simp [deadR, hd] at h2
  | ret => exact ⟨fun q => q.elim, rfl⟩
theorem fine_hd {p : CA} (h : Fine nw nb p.root) : (fixGh nw nb hnb g).hd (fixA nb p) = g.hd p := by
  show (g.ren (fixRen nw nb hnb)).hd (fixA nb p) = _
  by_cases hS : (fixRen nw nb hnb).S p
  · obtain ⟨e1, e2⟩ := (fixRen nw nb hnb).inv p hS
    show (if (fixRen nw nb hnb).D (fixA nb p) then g.hd ((fixRen nw nb hnb).fi (fixA nb p)) else g.hd (fixA nb p)) = _
    have e1' : (fixRen nw nb hnb).D (fixA nb p) := e1
    rw [if_pos e1']
    exact congrArg g.hd e2
  · obtain ⟨e1, e2⟩ := fine_stay (hnb := hnb) h (c := p.c) (p := p.path) hS
    have : fixA nb p = p := by cases p; simp only [fixA, e2]
    rw [this]
    exact Gh.ren_hd e1
theorem fine_rep {r : Root} (h : Fine nw nb r) {c : Nat} {t : T} {v : Value} (hr : Rep w g ⟨r, c, []⟩ t v) : Rep w (fixGh nw nb hnb g) ⟨fixR nb r, c, []⟩ t v := by
  by_cases hS : (fixRen nw nb hnb).S ⟨r, c, []⟩
  · exact (hr.ren (Mem.refl _ _) hS).fixG
  · obtain ⟨e1, e2⟩ := fine_stay (hnb := hnb) h hS
    rw [e2]
    have hst : Still w w g (g.ren (fixRen nw nb hnb)) r c := Gh.ren_still (Mem.refl _ _) (fun p => hS) (fun p => e1)
    have hk : Keeps w w g (g.ren (fixRen nw nb hnb)) (fun _ _ => false) (fun _ _ => false) (fun _ => False) := ⟨Nat.le_refl _, fun b _ h => ⟨Gh.ren_fz h, rfl⟩, fun _ _ h => h.elim, fun _ h => h.elim⟩
    exact (hr.still hk hst).fixG
theorem fine_prep {p : CA} {v : Value} (h : Fine nw nb p.root) (hr : PRep g p v) : PRep (fixGh nw nb hnb g) (fixA nb p) v := by
  obtain ⟨r, c, q⟩ := p
  cases q with
  | nil =>
    obtain ⟨k, rfl, e⟩ := PRep.path_nil.1 hr
    refine PRep.path_nil.2 ⟨keyK nb k, rfl, ?_⟩
    rw [fixGh_bl h.2.1]; exact e
  | cons x q =>
    obtain ⟨b, off, n, cap, e1, e2⟩ := PRep.path_cons.1 hr
    refine PRep.path_cons.2 ⟨b, off, n, cap, ?_, e2⟩
    exact (fine_hd (p := ⟨r, c, q⟩) h).trans e1

/-- Who is exposed is fine, or dropped. -/
def OkRoots (nw : List Nat) (l : List Root) : Prop := ∀ r ∈ l, ∀ n, r = .new n → n ∈ nw
theorem CRep.fix {r : Root} (hr : Fine nw nb r) {c : Nat} {x : C} {v : Value} (hd : ∀ r c, d r c = true → (r, c) ∈ di) (h : CRep w g d ⟨r, c, []⟩ x v) (hroots : OkRoots nw x.roots) :
    CRep w (fixGh nw nb hnb g) (fun _ _ => false) ⟨fixR nb r, c, []⟩ (fixC nw nb di x) v := by
  cases h with
  | t h => exact .t (fine_rep hr h)
  | @ref p _ h h1 =>
    simp only [fixC]
    split
    · exact .t (.fro .top)
    · rename_i hc
      simp only [Bool.or_eq_true, not_or, Bool.not_eq_true, List.contains_eq_mem, decide_eq_false_iff_not] at hc
      obtain ⟨⟨q1, q2⟩, q3⟩ := hc
      refine .ref (fun _ => ?_) h1
      have hdf : d p.root p.c = false := by
        cases hh : d p.root p.c with
        | false => rfl
        | true => exact absurd (hd _ _ hh) q2
      rw [h hdf]
      exact (fine_hd ⟨q1, q3, hroots _ (by simp [C.roots])⟩).symm
  | @ptr p _ h h0 h1 =>
    simp only [fixC]
    split
    · exact .t (.fro .top)
    · rename_i hc
      simp only [Bool.or_eq_true, not_or, Bool.not_eq_true, Bool.and_eq_true, not_and] at hc
      obtain ⟨⟨q1, q2⟩, q3⟩ := hc
      have hp : PRep g p v := by
        by_cases hpn : p.path = []
        · exact h0 hpn
        · refine h hpn ?_
          cases hh : d p.root p.c with
          | false => rfl
          | true =>
            have := q2 (by simpa using hpn)
            rw [List.contains_eq_mem] at this
            simp [hd _ _ hh] at this
      have hp' := fine_prep (hnb := hnb) ⟨q1, q3, hroots _ (by simp [C.roots])⟩ hp
      exact .ptr (fun _ _ => hp') (fun _ => hp') h1
  | fp vs hh ho hcell hrec => exact .fp vs hh (fixGh_fz ho) hcell fun j x hj => (hrec j x hj).frame (Nat.le_refl _) fun b _ hb => ⟨fixGh_fz hb, rfl⟩
  | @clo f caps vs hn h =>
    simp only [fixC]
    split
    · rename_i hc
      simp only [List.all_eq_true] at hc
      have := CRep.clo (w := w) (g := fixGh nw nb hnb g) (d := fun _ _ => false) (a := ⟨fixR nb r, c, []⟩) (f := f) (caps := caps.map (fixCap nb)) vs (fun x hx => by
        obtain ⟨y, hy, rfl⟩ := List.mem_map.1 hx
        have := hn y hy
        cases y <;> first | rfl | exact this) (fun j x hj => by
        simp only [List.getElem?_map, Option.map_eq_some_iff] at hj
        obtain ⟨y, hy, rfl⟩ := hj
        have hmem := List.mem_of_getElem? hy
        have h1 := h j y hy
        have hok := hc y hmem
        cases y with
        | t y =>
          cases h1 with | t h1 =>
          exact .t (.fro ((h1.isFro fun sz xs e => by subst e; have := hn _ hmem; simp [C.isOwn] at this).frame (Nat.le_refl _) fun b _ hb => ⟨fixGh_fz hb, rfl⟩))
        | ptr p =>
          obtain ⟨r', c', q⟩ := p
          cases r' with
          | obj k =>
            cases q with
            | nil =>
              simp only [okCap, Bool.not_eq_true'] at hok
              cases h1 with | ptr _ h0 h2 =>
              have hp' := fine_prep (hnb := hnb) (nw := nw) (p := ⟨.obj k, c', []⟩) ⟨rfl, hok, fun n e => by cases e⟩ (h0 rfl)
              exact .ptr (fun _ _ => hp') (fun _ => hp') h2
            | cons _ _ => simp [okCap] at hok
          | _ => simp [okCap] at hok
        | _ => simp [okCap] at hok)
      simpa using this
    · exact .t (.fro .top)
  | @mp k _ h =>
    simp only [fixC]
    split
    · exact .t (.fro .top)
    · rename_i hdead
      refine .mp ?_
      rw [fixGh_bl (by simpa using hdead)]
      exact h
end
end Vx

namespace Vx
open Go Classical
set_option linter.unusedSimpArgs false
set_option linter.unusedVariables false

theorem nb_ge (s : St) : ∀ j ∈ s.nb, 1000 ≤ j := fun j h => ((mem_nb s).1 h).1
section
variable {s : St} {keep : List Nat}
abbrev St.fc (s : St) : C → C := fixC s.nw s.nb s.di
theorem fix_slot (n : Nat) : (s.fix keep).slot n = if n ∈ keep then fixSV s.nw s.nb s.di (s.slot n) else .c (.t .top) := by
  show (lk n (fixSl keep s.nw s.nb s.di s.sl)).getD _ = _
  rw [lk_fixSl]
  split
  · cases h : lk n s.sl with
    | none => simp [St.slot, h, fixSV, fixSV1, fixC]
    | some x => simp [St.slot, h]
  · rfl
theorem fix_isnew (n : Nat) : (s.fix keep).isnew n = false := rfl
theorem fix_dirty : (s.fix keep).dirty = fun _ _ => false := rfl
theorem getD_fix (row : List C) (c : Nat) : (row.map s.fc).getD c (.t .top) = s.fc (row.getD c (.t .top)) := by
  simp only [List.getD, List.getElem?_map]
  cases row[c]? with
  | none => rfl
  | some x => rfl
theorem fix_ob (k' : Nat) : lk k' (s.fix keep).ob = if k' ∈ s.nb then (lk (k' + 99000) s.ob).map (·.map s.fc) else if movedK s.nb k' = true then none else (lk k' s.ob).map (·.map s.fc) := lk_fixOb (nb_ge s) _ _
theorem fix_vi (k' : Nat) : lk k' (s.fix keep).vi = if k' ∈ s.nb ∨ movedK s.nb k' = true then none else (lk k' s.vi).map s.fc := lk_fixVi _ _
theorem fix_mp (k' : Nat) : lk k' (s.fix keep).mp = if k' ∈ s.nb then lk (k' + 99000) s.mp else if movedK s.nb k' = true then none else lk k' s.mp := lk_fixMp (nb_ge s) _ _
theorem obj_src {k' : Nat} {kd : Kind} (h : (s.fix keep).kind k' = some kd) : ∃ k, deadK s.nb k = false ∧ keyK s.nb k = k' ∧ s.kind k = some kd ∧ ∀ c, (s.fix keep).cell k' c = s.fc (s.cell k c) := by
  by_cases h1 : k' ∈ s.nb
  · have hm := moved_back (nb_ge s) h1
    refine ⟨k' + 99000, ?_, by rw [keyK_moved hm]; omega, ?_⟩
    · cases hd : deadK s.nb (k' + 99000) with
      | false => rfl
      | true => exact absurd hm (deadK_iff.1 hd).2
    · simp only [St.kind, fix_ob, fix_vi, if_pos h1, h1, true_or, if_true] at h
      cases ho : lk (k' + 99000) s.ob with
      | none => rw [ho] at h; simp at h
      | some row =>
        rw [ho] at h
        simp only [Option.map_some, List.length_map, Option.some.injEq] at h
        subst h
        refine ⟨by simp [St.kind, ho], fun c => ?_⟩
        simp only [St.cell, fix_ob, if_pos h1, ho, Option.map_some]
        exact getD_fix row c
  · by_cases h2 : movedK s.nb k' = true
    · exfalso
      simp only [St.kind, fix_ob, fix_vi, if_neg h1, if_pos h2, h2, or_true, if_true] at h
      cases h
    · refine ⟨k', ?_, keyK_stay h2, ?_⟩
      · cases hd : deadK s.nb k' with
        | false => rfl
        | true => exact absurd (deadK_iff.1 hd).1 h1
      · have h3 : ¬ (k' ∈ s.nb ∨ movedK s.nb k' = true) := by simp [h1, h2]
        simp only [St.kind, St.cell, fix_ob, fix_vi, if_neg h1, if_neg h2, if_neg h3] at h ⊢
        cases ho : lk k' s.ob with
        | some row =>
          rw [ho] at h
          simp only [Option.map_some, List.length_map] at h ⊢
          exact ⟨h, fun c => getD_fix row c⟩
        | none =>
          rw [ho] at h
          cases hv : lk k' s.vi with
          | none => rw [hv] at h; simp at h
          | some x =>
            rw [hv] at h
            simp only [Option.map_none, Option.map_some] at h ⊢
            refine ⟨h, fun c => ?_⟩
            split <;> rfl
theorem cell_none {k' c : Nat} (h : (s.fix keep).kind k' = none) : (s.fix keep).cell k' c = .t .top := by
  simp only [St.kind] at h
  simp only [St.cell]
  cases ho : lk k' (s.fix keep).ob with
  | some row => rw [ho] at h; cases h
  | none =>
    rw [ho] at h
    cases hv : lk k' (s.fix keep).vi with
    | some x => rw [hv] at h; cases h
    | none => rfl
theorem ex_key {k : Nat} (h : s.sg.ex (.obj k)) (hd : deadK s.nb k = false) : (s.fix keep).sg.ex (.obj (keyK s.nb k)) := by
  by_cases hm : movedK s.nb k = true
  · obtain ⟨h1, h2⟩ := movedK_iff.1 hm
    rw [keyK_moved hm]
    obtain ⟨_, h3⟩ := (mem_nb s).1 h2
    rw [Nat.sub_add_cancel (by omega)] at h3
    rcases h3 with h3 | h3
    · refine .inr (.inl ?_)
      show (s.fix keep).kind (k - 99000) ≠ none
      obtain ⟨row, hr⟩ := Option.isSome_iff_exists.1 h3
      simp [St.kind, fix_ob, if_pos h2, Nat.sub_add_cancel (show 99000 ≤ k by omega), hr]
    · refine .inr (.inr ?_)
      show lk (k - 99000) (s.fix keep).mp ≠ none
      obtain ⟨es, hr⟩ := Option.isSome_iff_exists.1 h3
      simp [fix_mp, if_pos h2, Nat.sub_add_cancel (show 99000 ≤ k by omega), hr]
  · have hnb : k ∉ s.nb := fun q => by rw [deadK_iff.2 ⟨q, hm⟩] at hd; cases hd
    rw [keyK_stay hm]
    rcases Nat.lt_or_ge k 100000 with hlt | hge
    · exact .inl hlt
    · have hnot : ¬ ((lk k s.ob).isSome = true ∨ (lk k s.mp).isSome = true) := by
        intro q
        apply hm
        rw [movedK_iff]
        refine ⟨hge, (mem_nb s).2 ⟨by omega, ?_⟩⟩
        rw [Nat.sub_add_cancel (by omega)]
        exact q
      simp only [not_or, Option.not_isSome_iff_eq_none, Bool.not_eq_true, Option.isSome_eq_false_iff, Option.isNone_iff_eq_none] at hnot
      rcases h with h | h | h
      · exact .inl h
      · refine .inr (.inl ?_)
        have h : s.kind k ≠ none := h
        show (s.fix keep).kind k ≠ none
        have h3 : ¬ (k ∈ s.nb ∨ movedK s.nb k = true) := by simp [hnb, hm]
        simp only [St.kind, hnot.1] at h
        simp only [St.kind, fix_ob, fix_vi, if_neg hnb, if_neg hm, if_neg h3, hnot.1, Option.map_none]
        cases hv : lk k s.vi with
        | none => rw [hv] at h; exact absurd rfl h
        | some x => simp
      · have h : lk k s.mp ≠ none := h
        exact absurd hnot.2 h
theorem ex_root {r : Root} (h : s.sg.ex r) (hd : deadR s.nb r = false) : (s.fix keep).sg.ex (fixR s.nb r) := by
  cases r with
  | slot n => trivial
  | new n => trivial
  | obj k => exact ex_key h hd
  | ret => exact h.elim
theorem fc_roots {x : C} (h : ∀ r ∈ x.roots, s.sg.ex r) : ∀ r ∈ (s.fc x).roots, (s.fix keep).sg.ex r := by
  intro r hr
  cases x with
  | t y => simp [fixC, C.roots] at hr
  | ref p =>
    simp only [St.fc, fixC] at hr
    split at hr
    · simp [C.roots] at hr
    · rename_i hc
      simp only [Bool.or_eq_true, not_or, Bool.not_eq_true] at hc
      simp only [C.roots, List.mem_singleton] at hr
      subst hr
      exact ex_root (h _ (by simp [C.roots])) hc.2
  | ptr p =>
    simp only [St.fc, fixC] at hr
    split at hr
    · simp [C.roots] at hr
    · rename_i hc
      simp only [Bool.or_eq_true, not_or, Bool.not_eq_true] at hc
      simp only [C.roots, List.mem_singleton] at hr
      subst hr
      exact ex_root (h _ (by simp [C.roots])) hc.2
  | fp row c => simp [fixC, C.roots] at hr
  | clo f caps =>
    simp only [St.fc, fixC] at hr
    split at hr
    · rename_i hc
      simp only [List.all_eq_true] at hc
      simp only [C.roots] at hr
      obtain ⟨z, hz, hr⟩ := C.mem_rootsL.1 hr
      obtain ⟨y, hy, rfl⟩ := List.mem_map.1 hz
      have hok := hc y hy
      cases y with
      | t y => simp [fixCap, C.roots] at hr
      | ptr p =>
        obtain ⟨r', c', q⟩ := p
        cases r' with
        | obj k =>
          cases q with
          | nil =>
            simp only [okCap, Bool.not_eq_true'] at hok
            simp only [fixCap, C.roots, List.mem_singleton, fixA, fixR] at hr
            subst hr
            exact ex_key (h _ (by simp only [C.roots]; exact C.mem_rootsL.2 ⟨_, hy, by simp [C.roots]⟩)) hok
          | cons _ _ => simp [okCap] at hok
        | _ => simp [okCap] at hok
      | _ => simp [okCap] at hok
    · simp [C.roots] at hr
  | mp k =>
    simp only [St.fc, fixC] at hr
    split at hr
    · simp [C.roots] at hr
    · rename_i hc
      simp only [C.roots, List.mem_singleton] at hr
      subst hr
      exact ex_key (h _ (by simp [C.roots])) (by simpa using hc)
theorem fixSV1_roots {x : SV} (h : ∀ r ∈ x.roots, s.sg.ex r) : ∀ r ∈ (fixSV1 s.nw s.nb s.di x).roots, (s.fix keep).sg.ex r := by
  intro r hr
  cases x with
  | c x => exact fc_roots h r hr
  | agg row =>
    simp only [fixSV1, SV.roots] at hr
    obtain ⟨z, hz, hr⟩ := C.mem_rootsL.1 hr
    obtain ⟨y, hy, rfl⟩ := List.mem_map.1 hz
    exact fc_roots (fun r hr => h r (by simp only [SV.roots]; exact C.mem_rootsL.2 ⟨y, hy, hr⟩)) r hr
  | tup l => simp [fixSV1, SV.roots, C.roots] at hr
theorem fixSV_roots {x : SV} (h : ∀ r ∈ x.roots, s.sg.ex r) : ∀ r ∈ (fixSV s.nw s.nb s.di x).roots, (s.fix keep).sg.ex r := by
  intro r hr
  cases x with
  | tup l =>
    simp only [fixSV, SV.roots] at hr
    obtain ⟨z, hz, hr⟩ := SV.mem_rootsL.1 hr
    obtain ⟨y, hy, rfl⟩ := List.mem_map.1 hz
    exact fixSV1_roots (fun r hr => h r (by simp only [SV.roots]; exact SV.mem_rootsL.2 ⟨y, hy, hr⟩)) r hr
  | c x => exact fixSV1_roots h r hr
  | agg row => exact fixSV1_roots h r hr
theorem fixSV_flat {x : SV} (h : x.flat = true) : (fixSV s.nw s.nb s.di x).flat = true := by
  cases x with
  | tup l =>
    simp only [fixSV, SV.flat, List.all_eq_true] at h ⊢
    intro z hz
    obtain ⟨y, hy, rfl⟩ := List.mem_map.1 hz
    have := h y hy
    cases y with
    | c x => rfl
    | agg row => simpa [fixSV1] using this
    | tup l => rfl
  | c x => rfl
  | agg row => rfl
theorem ok_roots {l : List Root} (h : ∀ r ∈ l, s.sg.ex r) : OkRoots s.nw l := by
  rintro r hr n rfl
  have : s.isnew n = true := h _ hr
  simpa [St.isnew] using this

theorem SVRep.fix1 {w : World} {g : Gh} {hnb : ∀ j ∈ s.nb, 1000 ≤ j} {r : Root} (hr : Fine s.nw s.nb r) {n : Nat} {sv : SV} {v : Value} (hroots : ∀ r ∈ sv.roots, s.sg.ex r) (h : SVRep w g s.dirty r n sv v) :
    SVRep w (fixGh s.nw s.nb hnb g) (fun _ _ => false) (fixR s.nb r) n (fixSV1 s.nw s.nb s.di sv) v := by
  have hd : ∀ r c, s.dirty r c = true → (r, c) ∈ s.di := by intro r c h; simpa [St.dirty] using h
  cases h with
  | c h => exact .c (h.fix hr hd (ok_roots hroots))
  | agg vs h =>
    rename_i row
    have := SVRep.agg (w := w) (g := fixGh s.nw s.nb hnb g) (d := fun _ _ => false) (r := fixR s.nb r) (n := n) (row := row.map (fixC s.nw s.nb s.di)) vs (fun j x hj => by
      simp only [List.getElem?_map, Option.map_eq_some_iff] at hj
      obtain ⟨y, hy, rfl⟩ := hj
      exact (h j y hy).fix hr hd (ok_roots fun r hr => hroots r (by simp only [SV.roots]; exact C.mem_rootsL.2 ⟨y, List.mem_of_getElem? hy, hr⟩)))
    rw [List.length_map] at this
    exact this
  | tup vs h => exact .c (.t (.fro .top))
theorem SVRep.fix {w : World} {g : Gh} {hnb : ∀ j ∈ s.nb, 1000 ≤ j} {r : Root} (hr : Fine s.nw s.nb r) {sv : SV} {v : Value} (hroots : ∀ r ∈ sv.roots, s.sg.ex r) (h : SVRep w g s.dirty r 0 sv v) :
    SVRep w (fixGh s.nw s.nb hnb g) (fun _ _ => false) (fixR s.nb r) 0 (fixSV s.nw s.nb s.di sv) v := by
  cases sv with
  | c x => exact h.fix1 hr hroots
  | agg row => exact h.fix1 hr hroots
  | tup l =>
    cases h with
    | tup vs h =>
      have := SVRep.tup (w := w) (g := fixGh s.nw s.nb hnb g) (d := fun _ _ => false) (r := fixR s.nb r) (n := 0) (l := l.map (fixSV1 s.nw s.nb s.di)) vs (fun j x hj => by
        simp only [List.getElem?_map, Option.map_eq_some_iff] at hj
        obtain ⟨y, hy, rfl⟩ := hj
        exact (h j y hy).fix1 hr fun r hr => hroots r (by simp only [SV.roots]; exact SV.mem_rootsL.2 ⟨y, List.mem_of_getElem? hy, hr⟩))
      rw [List.length_map] at this
      exact this

theorem Core.fix {E : Env} {tmps : Array Value} {w : World} {g : Gh} (hc : Core E s.sg tmps w g) (keep : List Nat) :
    Core E (s.fix keep).sg tmps w (fixGh s.nw s.nb (nb_ge s) g) ∧ Move w g w (fixGh s.nw s.nb (nb_ge s) g) := by
  have hd : ∀ r c, s.dirty r c = true → (r, c) ∈ s.di := by intro r c h; simpa [St.dirty] using h
  refine ⟨⟨fun n => ?_, fun n => ?_, fun n r hr => ?_, fun k' c r hr => ?_, fun k' kd h => ?_, fun k' es h => ?_, fun b hb => ?_, hc.size⟩, ?_⟩
  · show SVRep w _ (fun _ _ => false) (.slot n) 0 ((s.fix keep).slot n) _
    rw [fix_slot]
    split
    · have hfine : Fine s.nw s.nb (s.sg.rt n) := by
        rcases s.sg.rt_slot n with e | e
        · rw [e]
          refine ⟨?_, rfl, fun m q => by cases q⟩
          have : s.isnew n = false := by
            cases hn : s.isnew n with
            | false => rfl
            | true =>
              have : s.sg.rt n = .new n := by simp [Sg.rt, Vx.rt, St.sg, hn]
              rw [this] at e; cases e
          simpa [isNewOf, St.isnew] using this
        · rw [e]
          refine ⟨rfl, rfl, fun m q => ?_⟩
          cases q
          have : s.isnew n = true := by
            cases hn : s.isnew n with
            | true => rfl
            | false =>
              have : s.sg.rt n = .slot n := by simp [Sg.rt, Vx.rt, St.sg, hn]
              rw [this] at e; cases e
          simpa [St.isnew] using this
      have := SVRep.fix (hnb := nb_ge s) hfine (hc.liveS n) (hc.slots n)
      have hfr : fixR s.nb (s.sg.rt n) = .slot n := by rcases s.sg.rt_slot n with e | e <;> rw [e] <;> rfl
      rw [hfr] at this
      exact this
    · exact .c (.t (.fro .top))
  · show ((s.fix keep).slot n).flat = true
    rw [fix_slot]
    split
    · exact fixSV_flat (hc.flat n)
    · rfl
  · have hr : r ∈ ((s.fix keep).slot n).roots := hr
    rw [fix_slot] at hr
    split at hr
    · exact fixSV_roots (hc.liveS n) r hr
    · simp [SV.roots, C.roots] at hr
  · have hr : r ∈ ((s.fix keep).cell k' c).roots := hr
    cases hk : (s.fix keep).kind k' with
    | none => rw [cell_none hk] at hr; simp [C.roots] at hr
    | some kd =>
      obtain ⟨k, _, _, _, h4⟩ := obj_src hk
      rw [h4] at hr
      exact fc_roots (hc.liveC k c) r hr
  · obtain ⟨k, h1, h2, h3, h4⟩ := obj_src (show (s.fix keep).kind k' = some kd from h)
    have base := hc.objs k kd h3
    have hfine : Fine s.nw s.nb (.obj k) := ⟨rfl, h1, fun n q => by cases q⟩
    have hcell : ∀ c u, CRep w g s.dirty ⟨.obj k, c, []⟩ (s.cell k c) u → CRep w (fixGh s.nw s.nb (nb_ge s) g) (fun _ _ => false) ⟨.obj k', c, []⟩ ((s.fix keep).cell k' c) u := by
      intro c u hu
      have := hu.fix (hnb := nb_ge s) hfine hd (ok_roots (hc.liveC k c))
      rw [h4]
      simp only [fixR, h2] at this
      exact this
    have hbl := fixGh_bl (nw := s.nw) (hnb := nb_ge s) (g := g) h1
    rw [h2] at hbl
    cases kd with
    | box m =>
      obtain ⟨cs, el, b1, b2, b3, b4, b5⟩ := base
      refine ⟨cs, el, by rw [hbl]; exact b1, ?_, by rw [hbl]; exact b3, by rw [hbl]; exact b4, fun c hcm => ?_⟩
      · rw [hbl, fixGh_box b2 h1, h2]
      · obtain ⟨u, u1, u2⟩ := b5 c hcm
        exact ⟨u, by rw [hbl]; exact u1, hcell c u u2⟩
    | virt =>
      obtain ⟨u, hu⟩ := base
      exact ⟨u, hcell 0 u hu⟩
  · have h : lk k' (s.fix keep).mp = some es := h
    rw [fix_mp] at h
    have hsrc : ∃ k, deadK s.nb k = false ∧ keyK s.nb k = k' ∧ s.map k = some es := by
      by_cases h1 : k' ∈ s.nb
      · rw [if_pos h1] at h
        have hm := moved_back (nb_ge s) h1
        refine ⟨k' + 99000, ?_, by rw [keyK_moved hm]; omega, h⟩
        cases hdd : deadK s.nb (k' + 99000) with
        | false => rfl
        | true => exact absurd hm (deadK_iff.1 hdd).2
      · rw [if_neg h1] at h
        by_cases h2 : movedK s.nb k' = true
        · rw [if_pos h2] at h; cases h
        · rw [if_neg h2] at h
          refine ⟨k', ?_, keyK_stay h2, h⟩
          cases hdd : deadK s.nb k' with
          | false => rfl
          | true => exact absurd (deadK_iff.1 hdd).1 h1
    obtain ⟨k, h1, h2, h3⟩ := hsrc
    obtain ⟨l, ck, m1, m2, m3, m4⟩ := hc.maps k es h3
    have hbl := fixGh_bl (nw := s.nw) (hnb := nb_ge s) (g := g) h1
    rw [h2] at hbl
    refine ⟨l, ck, by rw [hbl]; exact m1, by rw [hbl, fixGh_box m2 h1, h2], m3, fun i e x a1 a2 => ?_⟩
    obtain ⟨q1, q2⟩ := m4 i e x a1 a2
    exact ⟨q1.frame (Nat.le_refl _) fun b _ hb => ⟨fixGh_fz hb, rfl⟩, q2.frame (Nat.le_refl _) fun b _ hb => ⟨fixGh_fz hb, rfl⟩⟩
  · obtain ⟨e1, e2⟩ := hc.glob b hb
    exact ⟨fixGh_other e1, e2⟩
  · refine ⟨Nat.le_refl _, rfl, fun b _ h => ⟨?_, rfl⟩, fun k hk => ?_, fun b k _ hk h => ⟨?_, fun cs _ _ hh => ⟨cs, hh, rfl, fun _ _ => rfl⟩⟩, rfl, rfl, rfl⟩
    · rcases h with h | h
      · rw [h, fixGh_fz h]
      · rw [h, fixGh_other h]
    · show (if k ∈ s.nb then g.bl (k + 99000) else g.bl k) = _
      rw [if_neg]
      intro q
      have := nb_ge s k q
      omega
    · have h1 : deadK s.nb k = false := by
        cases hdd : deadK s.nb k with
        | false => rfl
        | true =>
          have := nb_ge s k (deadK_iff.1 hdd).1
          omega
      rw [fixGh_box h h1, keyK_stay]
      intro q
      have := (movedK_iff.1 q).1
      omega
end
end Vx

namespace Vx
open Go Classical
set_option linter.unusedSimpArgs false
set_option linter.unusedVariables false

/-- Each operation's step is sound. -/
def Step1OK (E : Env) (N : Nat) (R : Rel) : Prop :=
  ∀ (o : Oper) (an : Ans) (σ : Sg), okOper N o = true → ((ostep1 E.P R o an).run σ).ok → OpOK E N o σ ((ostep1 E.P R o an).run σ).upd

theorem slot_bool {E : Env} {σ : Sg} {tmps : Array Value} {w : World} {g : Gh} (hc : Core E σ tmps w g) {d : Nat} {b : Bool} (h : σ.slot d = .c (.t (.bool b))) : tmps.getD d undef = .bool b := by
  have := hc.slots d
  rw [h] at this
  generalize tmps.getD d undef = v at this
  cases this with | c h => cases h with | t h => cases h with | fro h => cases h; rfl
theorem slot_val {E : Env} {σ : Sg} {tmps : Array Value} {w : World} {g : Gh} (hc : Core E σ tmps w g) {d : Nat} {v : Value} (h : σ.slot d = .c (.t (.val v))) : tmps.getD d undef = v := by
  have := hc.slots d
  rw [h] at this
  generalize tmps.getD d undef = v' at this
  cases this with | c h => cases h with | t h => cases h with | fro h => cases h; rfl
theorem yielded_of {ops : Array Oper} {tmps : Array Value} {j d : Nat} (hd : (ops[j]?).bind (·.dst) = some d) : yielded ops tmps j = match tmps.getD d undef with | .bool b => some b | _ => none := by
  unfold yielded
  rw [hd]
  simp only [Option.bind_some, Array.getD_eq_getD_getElem?]
  cases tmps[d]? with
  | none => rfl
  | some v => cases v <;> rfl

theorem skip_sound {E : Env} {N : Nat} {o : Oper} {σ : Sg} (hN : okOper N o = true) (h : ((skipOp o).run σ).ok) {a : Act} {w : World} {g : Gh} (hc : Core E σ a.tmps w g) (hs : a.tmps.size = N) {K : Act → World → Prop}
    (hK : ∀ a' w' g', Core E (σ.upds ((skipOp o).run σ).upd) a'.tmps w' g' → Move w g w' g' → a'.tmps.size = N → a'.defers = a.defers → K a' w') : K (a.put o.dst undef) w := by
  unfold skipOp at *
  obtain ⟨_, h2, h3⟩ := put_ok h
  cases hd : o.dst with
  | none =>
    refine hK _ w g ?_ (Move.refl _ _) hs rfl
    rw [(h3 hd).1]
    exact hc
  | some d =>
    obtain ⟨hn, e, _⟩ := h2 d hd
    refine hK _ w g ?_ (Move.refl _ _) (by simpa [Act.put] using hs) rfl
    rw [e]
    exact hc.put hn (.c (.t (.fro .val))) (by simp [SV.roots, C.roots]) rfl (.inl (by rw [hs]; exact dst_lt hN hd))

theorem step_sound {E : Env} {N : Nat} {R : Rel} (h1 : Step1OK E N R) {ops : Array Oper} {Q : Exit → Act → World → Prop} {i : Nat} {o : Oper} (hi : ops[i]? = some o) (hN : okOper N o = true) (an : Ans) (us : List Upd) (rd : List Loc) :
    Sound E N ops Q ⟨i, ostep E.P R ops.toList o an, us, rd⟩ := by
  intro σ a w g K hok hc hs hl hK
  simp only at hok hK ⊢
  unfold wpOp
  rw [hi]
  simp only
  have hrun : ∀ (hw : Region.wanted o (yielded ops a.tmps) = true), ((ostep1 E.P R o an).run σ).ok → (∀ a' w' g', Core E (σ.upds ((ostep1 E.P R o an).run σ).upd) a'.tmps w' g' → Move w g w' g' → a'.tmps.size = N → a'.defers = a.defers → K a' w') →
      (if Region.wanted o (yielded ops a.tmps) = true then o.wp E.P a w K Q ∨ (o.asks E.P a w ∧ LetsOut Q) else K (a.put o.dst undef) w) := by
    intro hw hok' hK'
    rw [if_pos hw]
    exact .inl (h1 o an σ hN hok' a w g hc hs hl K Q hK')
  have hskip : ∀ (hw : ¬ Region.wanted o (yielded ops a.tmps) = true), ((skipOp o).run σ).ok → (∀ a' w' g', Core E (σ.upds ((skipOp o).run σ).upd) a'.tmps w' g' → Move w g w' g' → a'.tmps.size = N → a'.defers = a.defers → K a' w') →
      (if Region.wanted o (yielded ops a.tmps) = true then o.wp E.P a w K Q ∨ (o.asks E.P a w ∧ LetsOut Q) else K (a.put o.dst undef) w) := by
    intro hw hok' hK'
    rw [if_neg hw]
    exact skip_sound hN hok' hc hs hK'
  unfold ostep at hok hK
  cases hg : o.guard with
  | none =>
    rw [hg] at hok hK
    exact hrun (by simp [Region.wanted, hg]) hok hK
  | some gw =>
    obtain ⟨j, want⟩ := gw
    rw [hg] at hok hK
    simp only at hok hK
    cases hd : (ops.toList[j]?).bind (·.dst) with
    | none => rw [hd] at hok; exact hok.elim
    | some d =>
      rw [hd] at hok hK
      have hd' : (ops[j]?).bind (·.dst) = some d := by simpa using hd
      have hy := yielded_of (tmps := a.tmps) hd'
      simp only [Rd.run] at hok hK
      split at hok
      · rename_i b hsl
        rw [hsl] at hK
        simp only at hK
        rw [slot_bool hc hsl] at hy
        by_cases hb : b = want
        · rw [if_pos hb] at hok hK
          exact hrun (by simp [Region.wanted, hg, hy, hb]) hok hK
        · rw [if_neg hb] at hok hK
          exact hskip (by simp [Region.wanted, hg, hy, hb]) hok hK
      · rename_i vs hsl
        rw [hsl] at hK
        simp only at hK
        rw [slot_val hc hsl] at hy
        exact hskip (by simp [Region.wanted, hg, hy]) hok hK
      · exact hok.elim

theorem least {p : Nat → Prop} : ∀ (n : Nat), p n → ∃ k, p k ∧ ∀ m, p m → k ≤ m := by
  intro n
  induction n using Nat.strongRecOn with
  | _ n ih =>
    intro hn
    by_cases h : ∃ m, m < n ∧ p m
    · obtain ⟨m, h1, h2⟩ := h
      exact ih m h1 h2
    · refine ⟨n, hn, fun m hm => ?_⟩
      rcases Nat.lt_or_ge m n with q | q
      · exact absurd ⟨m, q, hm⟩ h
      · exact q
/-! ## Code -/
def okCode (N : Nat) : Code → Bool
  | .region _ ops _ => ops.all (okOper N)
  | .seq a b => okCode N a && okCode N b
  | .cond _ a b => okCode N a && okCode N b
  | .block _ c => okCode N c
  | .loop c => okCode N c
  | _ => true
def axE : AX → Exit
  | .normal => .normal
  | .exit id => .exit id
  | .ret => .ret
/-- What holds at an exit. -/
def At (E : Env) (N : Nat) (a0 : Act) (w0 : World) (g0 : Gh) (Q : AX → St → Prop) : Exit → Act → World → Prop :=
  fun e a w => ∃ ax s g, e = axE ax ∧ Q ax s ∧ Core E s.sg a.tmps w g ∧ Move w0 g0 w g ∧ a.tmps.size = N ∧ a.defers = a0.defers

theorem lk_onlySl (s : St) (n : Nat) : ∀ l : List Nat, lk n (onlySl s l) = if n ∈ l then some (s.slot n) else none
  | [] => by simp [onlySl, lk]
  | m :: l => by
    simp only [onlySl, lk, lk_onlySl s n l, List.mem_cons]
    by_cases e : n = m
    · subst e; simp
    · simp [e]
theorem lk_onlyOb (ol : List Nat) (k : Nat) : ∀ l : List (Nat × List C), lk k (onlyOb ol l) = if k ∈ ol ∨ 100000 ≤ k then lk k l else none
  | [] => by simp [onlyOb, lk]
  | (j, row) :: l => by
    have ih := lk_onlyOb ol k l
    simp only [onlyOb]
    by_cases h : (ol.contains j || decide (100000 ≤ j)) = true
    · rw [if_pos h]
      have h' : j ∈ ol ∨ 100000 ≤ j := by simpa using h
      simp only [lk, ih]
      by_cases e : k = j
      · subst e; simp [h']
      · simp [e]
    · rw [if_neg h, ih]
      have h' : ¬ (j ∈ ol ∨ 100000 ≤ j) := by simpa using h
      by_cases e : k = j
      · subst e; rw [if_neg h', if_neg h']
      · simp only [lk, if_neg e]
theorem lk_onlyVi (ob : List (Nat × List C)) (k : Nat) : ∀ l : List (Nat × C), lk k (onlyVi ob l) = if (lk k ob).isNone = true then lk k l else none
  | [] => by simp [onlyVi, lk]
  | (j, x) :: l => by
    have ih := lk_onlyVi ob k l
    simp only [onlyVi]
    by_cases h : (lk j ob).isNone = true
    · rw [if_pos h]
      simp only [lk, ih]
      by_cases e : k = j
      · subst e; simp [h]
      · simp [e]
    · rw [if_neg h, ih]
      by_cases e : k = j
      · subst e; rw [if_neg h, if_neg h]
      · simp only [lk, if_neg e]
theorem only_slot (s : St) (kl ol : List Nat) (n : Nat) : (s.only kl ol).slot n = if n ∈ kl then s.slot n else .c (.t .top) := by
  show (lk n (onlySl s kl)).getD _ = _
  rw [lk_onlySl]
  split <;> rfl
theorem only_kind (s : St) (kl ol : List Nat) (k : Nat) : (s.only kl ol).kind k = if (k ∈ ol ∨ 100000 ≤ k) ∨ (lk k s.ob).isNone = true then s.kind k else none := by
  simp only [St.kind, St.only, lk_onlyOb, lk_onlyVi]
  cases h : lk k s.ob with
  | none => simp
  | some row =>
    by_cases e : k ∈ ol ∨ 100000 ≤ k
    · simp [e]
    · simp [e]
theorem only_cell (s : St) (kl ol : List Nat) (k c : Nat) : (s.only kl ol).cell k c = if (k ∈ ol ∨ 100000 ≤ k) ∨ (lk k s.ob).isNone = true then s.cell k c else .t .top := by
  simp only [St.cell, St.only, lk_onlyOb, lk_onlyVi]
  cases h : lk k s.ob with
  | none => simp
  | some row =>
    by_cases e : k ∈ ol ∨ 100000 ≤ k
    · simp [e]
    · simp [e]
theorem Core.only {E : Env} {s : St} {tmps : Array Value} {w : World} {g : Gh} (hc : Core E s.sg tmps w g) (kl ol : List Nat) : Core E (s.only kl ol).sg tmps w g := by
  have hex : ∀ r, s.sg.ex r → (s.only kl ol).sg.ex r := by
    intro r h
    cases r with
    | obj k =>
      rcases Nat.lt_or_ge k 100000 with q | q
      · exact .inl q
      · rcases h with h | h | h
        · exact .inl h
        · refine .inr (.inl ?_)
          show (s.only kl ol).kind k ≠ none
          rw [only_kind, if_pos (.inl (.inr q))]
          exact h
        · exact .inr (.inr h)
    | _ => exact h
  refine Core.step hc ⟨Nat.le_refl _, fun _ _ h => ⟨h, rfl⟩, fun r c _ hd => ⟨hd, fun _ => rfl⟩, fun _ _ => rfl⟩ (fun n => ?_) (fun k kd h => ?_) (fun k c => ?_) (fun k es h => .inl ⟨h, fun _ h => ⟨h, rfl⟩⟩) hex (fun b _ => ⟨rfl, rfl⟩) (Nat.le_refl _)
  · by_cases e : n ∈ kl
    · exact .inl ⟨by show (s.only kl ol).slot n = _; rw [only_slot, if_pos e]; rfl, rfl, rfl, fun c => Still.refl _ _ _ _⟩
    · have e2 : (s.only kl ol).sg.slot n = .c (.t .top) := by show (s.only kl ol).slot n = _; rw [only_slot, if_neg e]
      refine .inr ⟨?_, by rw [e2]; rfl, by rw [e2]; simp [SV.roots, C.roots]⟩
      rw [e2]
      exact .c (.t (.fro .top))
  · left
    have h : (s.only kl ol).kind k = some kd := h
    rw [only_kind] at h
    split at h
    · rename_i hcond
      exact ⟨h, fun c => ⟨by show (s.only kl ol).cell k c = _; rw [only_cell, if_pos hcond]; rfl, Still.refl _ _ _ _⟩, fun _ h => ⟨h, rfl⟩⟩
    · cases h
  · by_cases e : (k ∈ ol ∨ 100000 ≤ k) ∨ (lk k s.ob).isNone = true
    · exact .inl (by show (s.only kl ol).cell k c = _; rw [only_cell, if_pos e]; rfl)
    · right
      have : (s.only kl ol).sg.cell k c = .t .top := by show (s.only kl ol).cell k c = _; rw [only_cell, if_neg e]
      rw [this]
      simp [C.roots]

theorem awp_ok {E : Env} {N : Nat} {R : Rel} {keep : List Nat} (hmix : E.P.follows .mixedOrders = true) (h1 : Step1OK E N R) : ∀ (c : Code) (Q : AX → St → Prop) (s : St) (a : Act) (w : World) (g : Gh), okCode N c = true → awp E.P R keep c Q s →
    Core E s.sg a.tmps w g → a.tmps.size = N → LIM ≤ g.lim → ∀ (a0 : Act) (w0 : World) (g0 : Gh), Move w0 g0 w g → a.defers = a0.defers → c.wp E.P (At E N a0 w0 g0 Q) a w := by
  intro c
  induction c with
  | skip =>
    intro Q s a w g _ h hc hs hl a0 w0 g0 hm hd
    exact wp_skip ⟨.normal, s, g, rfl, h, hc, hm, hs, hd⟩
  | region id ops draw =>
    intro Q s a w g hok h hc hs hl a0 w0 g0 hm hd
    simp only [awp] at h
    simp only [okCode, Array.all_eq_true] at hok
    refine region_wp (K := fun s => Q .normal (s.fix keep)) hmix (fun i o an us rd hi => step_sound h1 hi ?_ an us rd) h hc hs hl fun s' a' w' g' hq hc' hm' hs' hd' => ?_
    · obtain ⟨hlt, e⟩ := Array.getElem?_eq_some_iff.1 hi
      rw [← e]; exact hok i hlt
    · obtain ⟨f1, f2⟩ := hc'.fix keep
      exact ⟨.normal, _, _, rfl, hq, f1, (hm.trans hm').trans f2, hs', hd'.trans hd⟩
  | seq x y ihx ihy =>
    intro Q s a w g hok h hc hs hl a0 w0 g0 hm hd
    simp only [awp] at h
    simp only [okCode, Bool.and_eq_true] at hok
    refine wp_seq (wp_mono (ihx _ s a w g hok.1 h hc hs hl a0 w0 g0 hm hd) fun e a1 w1 hq => ?_)
    obtain ⟨ax, s1, g1, rfl, hq, hc1, hm1, hs1, hd1⟩ := hq
    cases ax with
    | normal =>
      exact ihy Q s1 a1 w1 g1 hok.2 hq hc1 hs1 (by rw [hm1.lim, ← hm.lim]; exact hl) a0 w0 g0 hm1 hd1
    | exit id => exact ⟨.exit id, s1, g1, rfl, hq, hc1, hm1, hs1, hd1⟩
    | ret => exact ⟨.ret, s1, g1, rfl, hq, hc1, hm1, hs1, hd1⟩
  | cond cnd x y ihx ihy =>
    intro Q s a w g hok h hc hs hl a0 w0 g0 hm hd
    simp only [okCode, Bool.and_eq_true] at hok
    cases cnd with
    | tmp n =>
      simp only [awp] at h
      split at h
      · rename_i t hsl
        have hv : a.eval (.tmp n) = .bool t := slot_bool hc hsl
        refine wp_cond_split hv (fun ht => ihx Q s a w g hok.1 (h.1 ht) hc hs hl a0 w0 g0 hm hd) (fun ht => ihy Q s a w g hok.2 (h.2 ht) hc hs hl a0 w0 g0 hm hd)
      · exact h.elim
    | const v =>
      cases v with
      | bool t =>
        simp only [awp] at h
        exact wp_cond_split (t := t) rfl (fun ht => ihx Q s a w g hok.1 (h.1 ht) hc hs hl a0 w0 g0 hm hd) (fun ht => ihy Q s a w g hok.2 (h.2 ht) hc hs hl a0 w0 g0 hm hd)
      | _ => exact h.elim
    | func f => exact h.elim
    | global f => exact h.elim
  | block id x ih =>
    intro Q s a w g hok h hc hs hl a0 w0 g0 hm hd
    simp only [awp] at h
    simp only [okCode] at hok
    refine wp_block (wp_mono (ih _ s a w g hok h hc hs hl a0 w0 g0 hm hd) fun e a1 w1 hq => ?_)
    obtain ⟨ax, s1, g1, rfl, hq, hc1, hm1, hs1, hd1⟩ := hq
    cases ax with
    | normal => exact ⟨.normal, s1, g1, rfl, hq, hc1, hm1, hs1, hd1⟩
    | exit j =>
      simp only at hq
      show Exit.inBlock id _ (.exit j) a1 w1
      simp only [Exit.inBlock]
      by_cases hj : j = id
      · rw [if_pos hj] at hq ⊢
        exact ⟨.normal, s1, g1, rfl, hq, hc1, hm1, hs1, hd1⟩
      · rw [if_neg hj] at hq ⊢
        exact ⟨.exit j, s1, g1, rfl, hq, hc1, hm1, hs1, hd1⟩
    | ret => exact ⟨.ret, s1, g1, rfl, hq, hc1, hm1, hs1, hd1⟩
  | loop x ih =>
    intro Q s a w g hok h hc hs hl a0 w0 g0 hm hd
    simp only [awp, aloop] at h
    simp only [okCode] at hok
    obtain ⟨kl, ol, I, ⟨n0, hn0⟩, hround⟩ := h
    let J : Nat → Act → World → Prop := fun n a w => ∃ s g, I n s ∧ Core E s.sg a.tmps w g ∧ Move w0 g0 w g ∧ a.tmps.size = N ∧ a.defers = a0.defers
    let μ : Act → World → Nat := fun a w => if h : ∃ n, J n a w then choose (least (p := fun n => J n a w) (choose h) (choose_spec h)) else 0
    have hμ : ∀ {n a w}, J n a w → J (μ a w) a w ∧ μ a w ≤ n := by
      intro n a w hJ
      have hex : ∃ n, J n a w := ⟨n, hJ⟩
      simp only [μ]
      rw [dif_pos hex]
      have := choose_spec (least (p := fun n => J n a w) (choose hex) (choose_spec hex))
      exact ⟨this.1, this.2 n hJ⟩
    refine wp_loop (fun a w => ∃ n, J n a w) μ ⟨n0, s.only kl ol, g, hn0, hc.only kl ol, hm, hs, hd⟩ fun a1 w1 hJ => ?_
    obtain ⟨n, hJ⟩ := hJ
    obtain ⟨⟨s1, g1, hI1, hc1, hm1, hs1, hd1⟩, hle⟩ := hμ hJ
    refine wp_mono (ih _ s1 a1 w1 g1 hok (hround _ s1 hI1) hc1 hs1 (by rw [hm1.lim, ← hm.lim]; exact hl) a0 w0 g0 hm1 hd1) fun e a2 w2 hq => ?_
    obtain ⟨ax, s2, g2, rfl, hq, hc2, hm2, hs2, hd2⟩ := hq
    cases ax with
    | normal =>
      obtain ⟨m, hlt, hIm⟩ := hq
      have hJ2 : J m a2 w2 := ⟨s2.only kl ol, g2, hIm, hc2.only kl ol, hm2, hs2, hd2⟩
      exact ⟨⟨m, hJ2⟩, Nat.lt_of_le_of_lt (hμ hJ2).2 hlt⟩
    | exit id => exact ⟨.exit id, s2, g2, rfl, hq, hc2, hm2, hs2, hd2⟩
    | ret => exact ⟨.ret, s2, g2, rfl, hq, hc2, hm2, hs2, hd2⟩
  | exit id =>
    intro Q s a w g _ h hc hs hl a0 w0 g0 hm hd
    exact wp_exit ⟨.exit id, s, g, rfl, h, hc, hm, hs, hd⟩
  | ret =>
    intro Q s a w g _ h hc hs hl a0 w0 g0 hm hd
    exact wp_ret ⟨.ret, s, g, rfl, h, hc, hm, hs, hd⟩
  | _ => intro Q s a w g _ h; exact h.elim
end Vx

namespace Vx
open Go Classical
set_option linter.unusedSimpArgs false
set_option linter.unusedVariables false

/-! ## Functions -/
def numbered {α : Type} : Nat → List α → List (Nat × α)
  | _, [] => []
  | n, x :: l => (n, x) :: numbered (n + 1) l
def obsOf : Nat → List AR → List (Nat × List C)
  | _, [] => []
  | k, .box row :: l => (k, row) :: obsOf (k + 1) l
  | k, _ :: l => obsOf (k + 1) l
def visOf : Nat → List AR → List (Nat × C)
  | _, [] => []
  | k, .virt x :: l => (k, .t x) :: visOf (k + 1) l
  | k, _ :: l => visOf (k + 1) l
def mpsOf : Nat → List AR → List (Nat × List (T × T))
  | _, [] => []
  | k, .map es :: l => (k, es) :: mpsOf (k + 1) l
  | k, _ :: l => mpsOf (k + 1) l
/-- The state at a function's entry; with no arguments, what it hands back. -/
def entrySt (fa : List SV) (rs : List AR) : St := ⟨numbered 0 fa, [], obsOf 0 rs, visOf 0 rs, mpsOf 0 rs, []⟩
def C.data : C → Bool
  | .t _ => true
  | _ => false
def SV.data : SV → Bool
  | .c x => x.data
  | .agg row => row.all C.data
  | .tup l => l.all fun x => match x with | .c x => x.data | .agg row => row.all C.data && decide (row.length ≤ 64) | .tup _ => false
abbrev noDirt : Dirt := fun _ _ => false
/-- What a function returns: `fa` the arguments, `rs` what is lent, `res` the result, `out` what is handed back. -/
def Returns (E : Env) (f : Nat) (fa : List SV) (rs : List AR) (res : SV) (out : List AR) : Prop :=
  res.data = true ∧ (∀ (vals : Array Value) (w : World), (callFunc f vals).run E.P w = .ok (.enter f vals) w) ∧ ∀ (w : World) (g : Gh) (vals : Array Value), LIM ≤ g.lim → vals.size = fa.length → Core E (entrySt fa rs).sg vals w g →
    Calls E.P f vals w fun e w' => match e with
      | .returned v => ∃ g', SVRep w' g' noDirt .ret 0 res v ∧ Core E (entrySt [] out).sg #[] w' g' ∧ Move w g w' g'
      | _ => False

theorem lk_numbered {α : Type} : ∀ (l : List α) (n m : Nat), lk m (numbered n l) = if n ≤ m then l[m - n]? else none
  | [], n, m => by simp [numbered, lk]
  | x :: l, n, m => by
    simp only [numbered, lk, lk_numbered l]
    by_cases e : m = n
    · subst e; simp
    · rw [if_neg e]
      by_cases h : n ≤ m
      · rw [if_pos (by omega), if_pos h, show m - n = (m - (n + 1)) + 1 by omega]; simp
      · rw [if_neg (by omega), if_neg h]
theorem entry_slot (fa : List SV) (rs : List AR) (n : Nat) : (entrySt fa rs).slot n = (fa[n]?).getD (.c (.t .top)) := by
  show (lk n (numbered 0 fa)).getD _ = _
  rw [lk_numbered]; simp

/-- The results of a function, taken. -/
def takeRow (agg : Bool) (row : List C) (f : SV → List Upd → Rd Eff) : Rd Eff :=
  takeL row fun l us => if agg then f (.agg (l.map C.t)) us else match l with
    | [x] => f (.c (.t x)) us
    | _ => fail
def resRd (P : Program) : List ResultVar → (List SV → List Upd → Rd Eff) → Rd Eff
  | [], f => f [] []
  | .tmp t :: r, f => rdS (.tmp t) fun sv => match sv with
    | .c y => takeRow false [y] fun x us => resRd P r fun svs vs => f (x :: svs) (us ++ vs)
    | .agg row => takeRow true row fun x us => resRd P r fun svs vs => f (x :: svs) (us ++ vs)
    | .tup _ => fail
  | .cell a ty :: r, f => match tinfo P ty with
    | none => fail
    | some i => rdS (.tmp a) fun sv => match sv with
      | .c (.ptr ⟨.obj k, c, []⟩) => .kind k fun kd => match kd with
        | some (.box m) => if c + i.size ≤ m ∧ (i.agg = true ∨ i.size = 1) then readCells k c i.size fun row => takeRow i.agg row fun x us => resRd P r fun svs vs => f (x :: svs) (us ++ vs) else fail
        | _ => fail
      | _ => fail
def pack : List SV → SV
  | [x] => x
  | l => .tup l
def outOK : Nat → List AR → St → Prop
  | _, [], _ => True
  | k, .box row :: l, s => lk k s.ob = some row ∧ row.all C.data = true ∧ outOK (k + 1) l s
  | k, .virt x :: l, s => lk k s.ob = none ∧ lk k s.vi = some (.t x) ∧ outOK (k + 1) l s
  | k, .map es :: l, s => lk k s.mp = some es ∧ outOK (k + 1) l s
def fnPost (P : Program) (ts : List ResultVar) (res : SV) (out : List AR) (s : St) : Prop :=
  (resRd P ts fun svs us => if distinct (keysOf us) then .ret ⟨pack svs = res, us⟩ else fail).go s [] fun e _ => e.ok ∧ outOK 0 out (s.upds e.upd)

def packV : List Value → Value
  | [v] => v
  | vs => .tuple vs.toArray
def rvRuns (P : Program) (w : World) (tmps : Array Value) (rv : ResultVar) (v : Value) : Prop :=
  (match rv with
    | .tmp t => pure (tmps.getD t undef)
    | .cell a t => do loadVar t (← asAddr (tmps.getD a undef)) : Sem Value).run P w = .ok v w
theorem mapM_runs {α : Type} {P : Program} {w : World} (f : α → Sem Value) : ∀ {l : List α} {vs : List Value}, F2 (fun x v => (f x).run P w = .ok v w) l vs → (l.mapM f).run P w = .ok vs w
  | [], _, h => by cases h; simp
  | x :: l, _, h => by
    cases h with
    | cons h t => simp only [List.mapM_cons, Sem.run_bind, h, Result.andThen_ok, mapM_runs f t, Sem.run_pure]
theorem run_results {P : Program} {fn : Func} {tmps : Array Value} {w : World} {vs : List Value} (h : F2 (rvRuns P w tmps) fn.results.toList vs) : (results fn tmps).run P w = .ok (packV vs) w := by
  unfold results
  have he : fn.results = fn.results.toList.toArray := by simp
  rw [he]
  simp only [List.mapM_toArray, Sem.run_bind, Sem.run_map]
  rw [mapM_runs (vs := vs) _ (h.mono fun x v hx => by unfold rvRuns at hx; cases x <;> exact hx)]
  simp only [Result.andThen_ok]
  rcases vs with _ | ⟨v, _ | ⟨u, vs⟩⟩
  · simp [packV]
  · simp [packV]
  · simp [packV]

/-- A result as it stands before it is taken. -/
def RVok (P : Program) (σ : Sg) (rv : ResultVar) (sv : SV) : Prop :=
  (∀ row, sv.row = some row → ∀ y ∈ row, y.isOwn = false) ∧ ∀ (E : Env) (tmps : Array Value) (w : World) (g : Gh), E.P = P → Core E σ tmps w g →
    (∀ r ∈ sv.roots, σ.ex r) ∧ ∃ v, rvRuns P w tmps rv v ∧ SVRep w g σ.dirty .ret 0 sv v
inductive ResT (P : Program) (σ : Sg) : List ResultVar → List SV → List C → List C → List Upd → Prop where
  | nil : ResT P σ [] [] [] [] []
  | c {t r y x us svs l l' vs} (hy : RVok P σ t (.c y)) (ht : TkL σ [y] [.t x] us) (h : ResT P σ r svs l l' vs) : ResT P σ (t :: r) (.c (.t x) :: svs) (y :: l) (.t x :: l') (us ++ vs)
  | agg {t r row us svs l l' vs} {xs : List T} (hy : RVok P σ t (.agg row)) (ht : TkL σ row (xs.map C.t) us) (h : ResT P σ r svs l l' vs) : ResT P σ (t :: r) (.agg (xs.map C.t) :: svs) (row ++ l) (xs.map C.t ++ l') (us ++ vs)
theorem ResT.tk {P : Program} {σ : Sg} {ts : List ResultVar} {svs : List SV} {l l' : List C} {us : List Upd} (h : ResT P σ ts svs l l' us) : TkL σ l l' us := by
  induction h with
  | nil => exact .nil
  | c hy ht h ih => exact ht.append ih
  | agg hy ht h ih => exact ht.append ih
theorem takeRow_ok {σ : Sg} {agg : Bool} {row : List C} {f : SV → List Upd → Rd Eff} (h : ((takeRow agg row f).run σ).ok) : ∃ xs us, TkL σ row (xs.map C.t) us ∧ ((agg = true ∧ (takeRow agg row f).run σ = (f (.agg (xs.map C.t)) us).run σ) ∨
    (agg = false ∧ ∃ x, xs = [x] ∧ (takeRow agg row f).run σ = (f (.c (.t x)) us).run σ)) := by
  unfold takeRow at h ⊢
  obtain ⟨xs, us, h1, h2⟩ := takeL_ok h
  rw [h2] at h ⊢
  refine ⟨xs, us, h1, ?_⟩
  cases agg with
  | true => exact .inl ⟨by simp, rfl⟩
  | false =>
    right
    simp only [Bool.false_eq_true, if_false] at h ⊢
    rcases xs with _ | ⟨x, _ | ⟨z, xs⟩⟩
    · exact h.elim
    · exact ⟨by simp, x, rfl, rfl⟩
    · exact h.elim
theorem resRd_row {P : Program} {σ : Sg} {rv : ResultVar} {ts : List ResultVar} {agg : Bool} {row : List C} {f : List SV → List Upd → Rd Eff}
    (ih : ∀ {f : List SV → List Upd → Rd Eff}, ((resRd P ts f).run σ).ok → ∃ svs l l' us, ResT P σ ts svs l l' us ∧ (resRd P ts f).run σ = (f svs us).run σ)
    (hrv : (agg = true → RVok P σ rv (.agg row)) ∧ (agg = false → ∀ y, row = [y] → RVok P σ rv (.c y)))
    (h : ((takeRow agg row fun x us => resRd P ts fun svs vs => f (x :: svs) (us ++ vs)).run σ).ok) :
    ∃ svs l l' us, ResT P σ (rv :: ts) svs l l' us ∧ (takeRow agg row fun x us => resRd P ts fun svs vs => f (x :: svs) (us ++ vs)).run σ = (f svs us).run σ := by
  obtain ⟨xs, us, h1, h2⟩ := takeRow_ok h
  rcases h2 with ⟨ha, h2⟩ | ⟨ha, x, rfl, h2⟩
  · rw [h2] at h ⊢
    obtain ⟨svs, l, l', vs, h3, h4⟩ := ih h
    exact ⟨_, _, _, _, .agg (hrv.1 ha) h1 h3, h4⟩
  · rw [h2] at h ⊢
    obtain ⟨svs, l, l', vs, h3, h4⟩ := ih h
    have hlen := h1.length
    simp at hlen
    obtain ⟨y, rfl⟩ : ∃ y, row = [y] := List.length_eq_one_iff.1 hlen.symm
    exact ⟨_, _, _, _, .c (hrv.2 ha y rfl) h1 h3, h4⟩
theorem tmp_rv {P : Program} {σ : Sg} {t : Tmp} {sv : SV} (h : (σ.slot t).alias (σ.rt t) = sv) : RVok P σ (.tmp t) sv := by
  subst h
  refine ⟨fun row hrow y hy => ?_, fun E tmps w g _ hc => ⟨fun r hr => ?_, tmps.getD t undef, rfl, (hc.slots t).alias (hc.flat t) .ret⟩⟩
  · cases hs : σ.slot t with
    | c x => rw [hs] at hrow; cases hrow; simp at hy; subst hy; exact C.alias_isOwn _ _
    | agg l =>
      rw [hs] at hrow; cases hrow
      obtain ⟨j, hj⟩ := List.getElem?_of_mem hy
      obtain ⟨z, _, e⟩ := aliasFrom_get hj
      rw [e]; exact C.alias_isOwn _ _
    | tup l => rw [hs] at hrow; cases hrow
  · rcases SV.alias_roots _ _ r hr with h | h
    · rw [h]; exact σ.rt_ex t
    · exact hc.liveS t r h
theorem box_cells {E : Env} {σ : Sg} {tmps : Array Value} {w : World} {g : Gh} (hc : Core E σ tmps w g) {k m c n : Nat} (hk : σ.kind k = some (.box m)) (hle : c + n ≤ m) : ∃ vs : Nat → Value, ∀ j, j < n →
    w.cell? ⟨(g.bl k).1, (g.bl k).2.1 + c + j, none⟩ = some (vs j) ∧ CRep w g σ.dirty ⟨.obj k, c + j, []⟩ (σ.cell k (c + j)) (vs j) := by
  obtain ⟨cs, el, b1, b2, b3, b4, b5⟩ := hc.objs k _ hk
  have hch : ∀ j, ∃ u, j < n → cs[(g.bl k).2.1 + (c + j)]? = some u ∧ CRep w g σ.dirty ⟨.obj k, c + j, []⟩ (σ.cell k (c + j)) u := by
    intro j
    by_cases e : j < n
    · obtain ⟨u, h1, h2⟩ := b5 (c + j) (by omega)
      exact ⟨u, fun _ => ⟨h1, h2⟩⟩
    · exact ⟨undef, fun e' => absurd e' e⟩
  refine ⟨fun j => choose (hch j), fun j hj => ?_⟩
  obtain ⟨h1, h2⟩ := choose_spec (hch j) hj
  exact ⟨by rw [cell_of b1, Nat.add_assoc]; exact h1, h2⟩
theorem box_row_ok {E : Env} {σ : Sg} {tmps : Array Value} {w : World} {g : Gh} (hc : Core E σ tmps w g) {k m c n : Nat} (hk : σ.kind k = some (.box m)) : (∀ y ∈ (List.range n).map fun j => (σ.cell k (c + j)).alias ⟨.obj k, c + j, []⟩, y.isOwn = false) ∧
    ∀ y ∈ (List.range n).map fun j => (σ.cell k (c + j)).alias ⟨.obj k, c + j, []⟩, ∀ r ∈ y.roots, σ.ex r := by
  refine ⟨fun y hy => ?_, fun y hy r hr => ?_⟩
  · obtain ⟨j, _, rfl⟩ := List.mem_map.1 hy
    exact C.alias_isOwn _ _
  · obtain ⟨j, _, rfl⟩ := List.mem_map.1 hy
    rcases C.alias_roots _ _ r hr with e | e
    · rw [e]; exact .inr (.inl (by rw [hk]; simp))
    · exact hc.liveC _ _ _ e
theorem cell_rv {P : Program} {σ : Sg} {a : Tmp} {ty : TypeId} {i : TI} (hi : tinfo P ty = some i) {k c m : Nat} (hs : (σ.slot a).alias (σ.rt a) = .c (.ptr ⟨.obj k, c, []⟩)) (hk : σ.kind k = some (.box m)) (hle : c + i.size ≤ m) :
    (i.agg = true → RVok P σ (.cell a ty) (.agg ((List.range i.size).map fun j => (σ.cell k (c + j)).alias ⟨.obj k, c + j, []⟩))) ∧
    (i.agg = false → ∀ y, ((List.range i.size).map fun j => (σ.cell k (c + j)).alias ⟨.obj k, c + j, []⟩) = [y] → RVok P σ (.cell a ty) (.c y)) := by
  have hptr : ∀ (E : Env) (tmps : Array Value) (w : World) (g : Gh), Core E σ tmps w g → tmps.getD a undef = .pointer (some ⟨(g.bl k).1, (g.bl k).2.1 + c, none⟩) := by
    intro E tmps w g hc
    have := (hc.slots a).alias (hc.flat a) .ret
    rw [hs] at this
    generalize tmps.getD a undef = v at this
    cases this with
    | c this =>
      obtain ⟨k', ek, hv⟩ := PRep.path_nil.1 (this.ptr_val (.inl rfl))
      cases ek
      exact hv
  refine ⟨fun ha => ⟨fun row hrow y hy => ?_, fun E tmps w g hP hc => ⟨fun r hr => ?_, ?_⟩⟩, fun ha y hy => ⟨fun row hrow z hz => ?_, fun E tmps w g hP hc => ⟨fun r hr => ?_, ?_⟩⟩⟩
  · cases hrow
    obtain ⟨j, _, rfl⟩ := List.mem_map.1 hy
    exact C.alias_isOwn _ _
  · simp only [SV.roots] at hr
    obtain ⟨z, hz, hr⟩ := C.mem_rootsL.1 hr
    exact (box_row_ok hc hk).2 z hz r hr
  · obtain ⟨vs, hvs⟩ := box_cells hc hk hle
    refine ⟨.agg ((List.range i.size).map vs).toArray, ?_, ?_⟩
    · have h1 := run_loadAt_agg (b := (g.bl k).1) (o := (g.bl k).2.1 + c) (w := w) hi ha vs (fun j hj => (hvs j hj).1)
      unfold rvRuns
      simp only [hptr E tmps w g hc]
      simpa [Instr.loadAt, Instr.sureAddr, asAddr] using h1
    · have := SVRep.agg (w := w) (g := g) (d := σ.dirty) (r := .ret) (n := 0) (row := (List.range i.size).map fun j => (σ.cell k (c + j)).alias ⟨.obj k, c + j, []⟩) vs (fun j x hj => by
        simp only [List.getElem?_map, Option.map_eq_some_iff] at hj
        obtain ⟨j', h1, rfl⟩ := hj
        have hjl := lt_of_getElem? h1
        simp at hjl
        rw [List.getElem?_range hjl] at h1
        cases h1
        exact ((hvs j hjl).2).alias _)
      simp only [List.length_map, List.length_range] at this
      exact this
  · cases hrow
    simp at hz
    subst hz
    have : z ∈ (List.range i.size).map fun j => (σ.cell k (c + j)).alias ⟨.obj k, c + j, []⟩ := by rw [hy]; simp
    obtain ⟨j, _, rfl⟩ := List.mem_map.1 this
    exact C.alias_isOwn _ _
  · have : y ∈ (List.range i.size).map fun j => (σ.cell k (c + j)).alias ⟨.obj k, c + j, []⟩ := by rw [hy]; simp
    exact (box_row_ok hc hk).2 y this r hr
  · have hlen := congrArg List.length hy
    simp at hlen
    obtain ⟨vs, hvs⟩ := box_cells hc hk hle
    obtain ⟨q1, q2⟩ := hvs 0 (by omega)
    refine ⟨vs 0, ?_, ?_⟩
    · have h1 := run_loadAt_scalar (b := (g.bl k).1) (o := (g.bl k).2.1 + c) (w := w) hi ha q1
      unfold rvRuns
      simp only [hptr E tmps w g hc]
      simpa [Instr.loadAt, Instr.sureAddr, asAddr] using h1
    · rw [hlen] at hy
      simp at hy
      rw [← hy]
      exact .c (q2.alias _)
theorem resRd_ok {P : Program} {σ : Sg} : ∀ {ts : List ResultVar} {f : List SV → List Upd → Rd Eff}, ((resRd P ts f).run σ).ok → ∃ svs l l' us, ResT P σ ts svs l l' us ∧ (resRd P ts f).run σ = (f svs us).run σ
  | [], f, h => ⟨[], [], [], [], .nil, rfl⟩
  | .tmp t :: ts, f, h => by
    simp only [resRd, rdS, Rd.run] at h ⊢
    have hrt : Vx.rt t (σ.isnew t) = σ.rt t := rfl
    rw [hrt] at h ⊢
    cases hsv : (σ.slot t).alias (σ.rt t) with
    | c y =>
      rw [hsv] at h
      simp only at h ⊢
      exact resRd_row (rv := .tmp t) resRd_ok ⟨fun e => (by cases e), fun _ z hz => by cases hz; exact tmp_rv hsv⟩ h
    | agg row =>
      rw [hsv] at h
      simp only at h ⊢
      exact resRd_row (rv := .tmp t) resRd_ok ⟨fun _ => tmp_rv hsv, fun e => (by cases e)⟩ h
    | tup l => rw [hsv] at h; exact h.elim
  | .cell a ty :: ts, f, h => by
    simp only [resRd] at h ⊢
    cases hi : tinfo P ty with
    | none => rw [hi] at h; exact h.elim
    | some i =>
      rw [hi] at h
      simp only [rdS, Rd.run] at h ⊢
      have hrt : Vx.rt a (σ.isnew a) = σ.rt a := rfl
      rw [hrt] at h ⊢
      cases hsv : (σ.slot a).alias (σ.rt a) with
      | c y =>
        rw [hsv] at h
        cases y with
        | ptr p =>
          obtain ⟨r, c, q⟩ := p
          cases r with
          | obj k =>
            cases q with
            | nil =>
              simp only [Rd.run] at h ⊢
              cases hk : σ.kind k with
              | none => rw [hk] at h; exact h.elim
              | some kd =>
                cases kd with
                | virt => rw [hk] at h; exact h.elim
                | box m =>
                  rw [hk] at h
                  simp only at h ⊢
                  by_cases hle : c + i.size ≤ m ∧ (i.agg = true ∨ i.size = 1)
                  · rw [if_pos hle] at h ⊢
                    rw [readCells_run] at h ⊢
                    exact resRd_row (rv := .cell a ty) resRd_ok (cell_rv hi hsv hk hle.1) h
                  · rw [if_neg hle] at h; exact h.elim
            | cons _ _ => exact h.elim
          | _ => exact h.elim
        | _ => exact h.elim
      | agg row => rw [hsv] at h; exact h.elim
      | tup l => rw [hsv] at h; exact h.elim

/-- Where the results' cells go. -/
def posOf : Nat → List SV → List Nat
  | _, [] => []
  | i, .c _ :: r => 64 * i :: posOf (i + 1) r
  | i, .agg row :: r => List.range' (64 * i) row.length ++ posOf (i + 1) r
  | i, .tup _ :: r => posOf (i + 1) r
theorem ResT.vals {E : Env} {σ : Sg} {tmps : Array Value} {w : World} {g : Gh} (hc : Core E σ tmps w g) {ts : List ResultVar} {svs : List SV} {l l' : List C} {us : List Upd} (h : ResT E.P σ ts svs l l' us) :
    ∃ (vsL : List Value) (vsR : List Value), F2 (rvRuns E.P w tmps) ts vsR ∧ vsL.length = l.length ∧ (∀ (j : Nat) (x : C) (u : Value), l[j]? = some x → vsL[j]? = some u → (∃ a, CRep w g σ.dirty a x u) ∧ x.isOwn = false ∧ ∀ r ∈ x.roots, σ.ex r) ∧
      ∀ (g' : Gh) (d : Dirt) (i : Nat), (∀ (j : Nat) (x : C) (u : Value) (p : Nat), l'[j]? = some x → vsL[j]? = some u → (posOf i svs)[j]? = some p → CRep w g' d ⟨.ret, p, []⟩ x u) →
        ∀ (k : Nat) (sv : SV) (v : Value), svs[k]? = some sv → vsR[k]? = some v → SVRep w g' d .ret (64 * (i + k)) sv v := by
  induction h with
  | nil => exact ⟨[], [], .nil, rfl, by simp, by simp⟩
  | @c t r y x us svs l l' vs hy ht h ih =>
    obtain ⟨vsL, vsR, h0, h1, h2, h3⟩ := ih
    obtain ⟨hown, hy⟩ := hy
    obtain ⟨hroots, v, hrun, hx⟩ := hy E tmps w g rfl hc
    refine ⟨v :: vsL, v :: vsR, .cons hrun h0, by simp [h1], fun j z u hj hu => ?_, fun g' d i hcell k sv t' hk ht' => ?_⟩
    · cases j with
      | zero =>
        simp only [List.getElem?_cons_zero, Option.some.injEq] at hj hu
        subst hj hu
        cases hx with | c hx => exact ⟨⟨_, hx⟩, hown _ rfl _ (by simp), hroots⟩
      | succ j => exact h2 j z u (by simpa using hj) (by simpa using hu)
    · cases k with
      | zero =>
        simp only [List.getElem?_cons_zero, Option.some.injEq] at hk ht'
        subst hk ht'
        exact .c (hcell 0 _ _ _ rfl rfl rfl)
      | succ k =>
        have := h3 g' d (i + 1) (fun j z u p q1 q2 q3 => hcell (j + 1) z u p (by simpa using q1) (by simpa using q2) (by simpa [posOf] using q3)) k sv t' (by simpa using hk) (by simpa using ht')
        rw [show i + (k + 1) = i + 1 + k by omega]
        exact this
  | @agg t r row us svs l l' vs xs hy ht h ih =>
    obtain ⟨vsL, vsR, h0, h1, h2, h3⟩ := ih
    obtain ⟨hown, hy⟩ := hy
    obtain ⟨hroots, v, hrun, hx⟩ := hy E tmps w g rfl hc
    have hroots' : ∀ y ∈ row, ∀ q ∈ y.roots, σ.ex q := fun y hyr q hq => hroots q (by simp only [SV.roots]; exact C.mem_rootsL.2 ⟨y, hyr, hq⟩)
    cases hx with
    | agg vs0 hx =>
      have hlen : xs.length = row.length := by have := ht.length; simpa using this
      refine ⟨(List.range row.length).map vs0 ++ vsL, _ :: vsR, .cons hrun h0, by simp [h1], fun j z u hj hu => ?_, fun g' d i hcell k sv t' hk ht' => ?_⟩
      · by_cases hlt : j < row.length
        · rw [List.getElem?_append_left hlt] at hj
          rw [List.getElem?_append_left (by simpa using hlt)] at hu
          simp [hlt] at hu
          subst hu
          exact ⟨⟨_, hx j z hj⟩, hown _ rfl z (List.mem_of_getElem? hj), hroots' z (List.mem_of_getElem? hj)⟩
        · rw [List.getElem?_append_right (by omega)] at hj
          rw [List.getElem?_append_right (by simp; omega)] at hu
          simp only [List.length_map, List.length_range] at hu
          exact h2 _ z u hj hu
      · cases k with
        | zero =>
          simp only [List.getElem?_cons_zero, Option.some.injEq] at hk ht'
          subst hk ht'
          have := SVRep.agg (w := w) (g := g') (d := d) (r := .ret) (n := 64 * (i + 0)) (row := xs.map C.t) vs0 (fun j z hj => by
            have hlt := lt_of_getElem? hj
            simp only [List.length_map] at hlt
            refine hcell j z (vs0 j) _ ?_ ?_ ?_
            · rw [List.getElem?_append_left (by simpa using hlt)]; exact hj
            · have hlt' : j < row.length := by omega
              rw [List.getElem?_append_left (by simpa using hlt')]; simp [hlt']
            · simp only [posOf, List.length_map]
              rw [List.getElem?_append_left (by simpa using hlt), List.getElem?_range' hlt]
              simp)
          rw [List.length_map, hlen] at this
          exact this
        | succ k =>
          have := h3 g' d (i + 1) (fun j z u p q1 q2 q3 => hcell (row.length + j) z u p (by rw [List.getElem?_append_right (by simp [hlen])]; simpa [hlen] using q1) (by rw [List.getElem?_append_right (by simp)]; simpa using q2)
            (by simp only [posOf]; rw [List.getElem?_append_right (by simp [hlen])]; simpa [hlen] using q3)) k sv t' (by simpa using hk) (by simpa using ht')
          rw [show i + (k + 1) = i + 1 + k by omega]
          exact this
end Vx

namespace Vx
open Go Classical
set_option linter.unusedSimpArgs false
set_option linter.unusedVariables false

theorem ResT.lens {P : Program} {σ : Sg} {ts : List ResultVar} {svs : List SV} {l l' : List C} {us : List Upd} (h : ResT P σ ts svs l l' us) : svs.length = ts.length ∧ ∀ i, (posOf i svs).length = l'.length := by
  induction h with
  | nil => exact ⟨rfl, fun _ => rfl⟩
  | c hy ht h ih => exact ⟨by simp [ih.1], fun i => by simp [posOf, ih.2]⟩
  | agg hy ht h ih => exact ⟨by simp [ih.1], fun i => by simp [posOf, ih.2]⟩
theorem F2.length {α β : Type} {R : α → β → Prop} {l : List α} {m : List β} (h : F2 R l m) : l.length = m.length := by
  induction h <;> simp_all
theorem posOf_sorted : ∀ (svs : List SV) (i : Nat), (∀ x ∈ svs, ∀ row, x = .agg row → row.length ≤ 64) → (posOf i svs).Pairwise (· < ·) ∧ ∀ p ∈ posOf i svs, 64 * i ≤ p
  | [], i, _ => ⟨.nil, by simp [posOf]⟩
  | x :: svs, i, h => by
    obtain ⟨h1, h2⟩ := posOf_sorted svs (i + 1) fun y hy => h y (by simp [hy])
    cases x with
    | c y =>
      simp only [posOf]
      refine ⟨List.pairwise_cons.2 ⟨fun p hp => by have := h2 p hp; omega, h1⟩, fun p hp => ?_⟩
      rcases List.mem_cons.1 hp with e | e
      · omega
      · have := h2 p e; omega
    | agg row =>
      have hl := h _ (by simp) row rfl
      simp only [posOf]
      refine ⟨List.pairwise_append.2 ⟨List.pairwise_lt_range', h1, fun p hp q hq => ?_⟩, fun p hp => ?_⟩
      · have := h2 q hq
        have := List.mem_range'_1.1 hp
        omega
      · rcases List.mem_append.1 hp with e | e
        · have := List.mem_range'_1.1 e; omega
        · have := h2 p e; omega
    | tup l =>
      simp only [posOf]
      exact ⟨h1, fun p hp => by have := h2 p hp; omega⟩
theorem posOf_one (x : SV) : (posOf 0 [x]).Pairwise (· < ·) := by
  cases x with
  | c y => simp [posOf]
  | agg row => simp only [posOf, List.append_nil]; exact List.pairwise_lt_range'
  | tup l => simp [posOf]

theorem CRep.dirt {w : World} {g : Gh} {d d' : Dirt} {a : CA} {x : C} {v : Value} (h : CRep w g d a x v) (hx : x.data = true) : CRep w g d' a x v := by
  cases h with
  | t h => exact .t h
  | _ => cases hx

theorem Core.out {E : Env} {s : St} {tmps : Array Value} {w : World} {g : Gh} (hc : Core E s.sg tmps w g) {out : List AR} (h : outOK 0 out s) : Core E (entrySt [] out).sg #[] w g := by
  have hspec : ∀ (l : List AR) (n : Nat), outOK n l s → (∀ k row, lk k (obsOf n l) = some row → lk k s.ob = some row ∧ row.all C.data = true) ∧ (∀ k x, lk k (visOf n l) = some x → lk k s.ob = none ∧ lk k s.vi = some x ∧ x.data = true) ∧
      (∀ k es, lk k (mpsOf n l) = some es → lk k s.mp = some es) := by
    intro l
    induction l with
    | nil => intro n _; simp [obsOf, visOf, mpsOf, lk]
    | cons a l ih =>
      intro n h
      cases a with
      | box row =>
        obtain ⟨h1, h2, h3⟩ := h
        obtain ⟨i1, i2, i3⟩ := ih (n + 1) h3
        refine ⟨fun k r hk => ?_, i2, i3⟩
        simp only [obsOf, lk] at hk
        split at hk
        · rename_i e; subst e; cases hk; exact ⟨h1, h2⟩
        · exact i1 k r hk
      | virt x =>
        obtain ⟨h1, h2, h3⟩ := h
        obtain ⟨i1, i2, i3⟩ := ih (n + 1) h3
        refine ⟨i1, fun k r hk => ?_, i3⟩
        simp only [visOf, lk] at hk
        split at hk
        · rename_i e; subst e; cases hk; exact ⟨h1, h2, rfl⟩
        · exact i2 k r hk
      | map es =>
        obtain ⟨h1, h3⟩ := h
        obtain ⟨i1, i2, i3⟩ := ih (n + 1) h3
        refine ⟨i1, i2, fun k r hk => ?_⟩
        simp only [mpsOf, lk] at hk
        split at hk
        · rename_i e; subst e; cases hk; exact h1
        · exact i3 k r hk
  obtain ⟨h1, h2, h3⟩ := hspec out 0 h
  have hcell : ∀ k c, ((entrySt [] out).cell k c).data = true := by
    intro k c
    simp only [St.cell, entrySt]
    cases ho : lk k (obsOf 0 out) with
    | some row =>
      have := (h1 k row ho).2
      simp only [List.all_eq_true] at this
      simp only [List.getD]
      cases hr : row[c]? with
      | none => rfl
      | some x => exact this x (List.mem_of_getElem? hr)
    | none =>
      cases hv : lk k (visOf 0 out) with
      | some x =>
        simp only
        split
        · exact (h2 k x hv).2.2
        · rfl
      | none => rfl
  refine ⟨fun n => .c (.t (.fro .top)), fun n => rfl, fun n r hr => ?_, fun k c r hr => ?_, fun k kd hk => ?_, fun k es hk => ?_, hc.glob, hc.size⟩
  · have hr : r ∈ ((entrySt [] out).slot n).roots := hr
    rw [entry_slot] at hr
    simp [SV.roots, C.roots] at hr
  · have hr : r ∈ ((entrySt [] out).cell k c).roots := hr
    have hd := hcell k c
    generalize (entrySt [] out).cell k c = x at hr hd
    cases x with
    | t x => simp [C.roots] at hr
    | _ => cases hd
  · have hk : (entrySt [] out).kind k = some kd := hk
    simp only [St.kind, entrySt] at hk
    cases ho : lk k (obsOf 0 out) with
    | some row =>
      rw [ho] at hk
      cases hk
      obtain ⟨q1, q2⟩ := h1 k row ho
      have base := hc.objs k (.box row.length) (by simp [St.sg, St.kind, q1])
      obtain ⟨cs, el, b1, b2, b3, b4, b5⟩ := base
      refine ⟨cs, el, b1, b2, b3, b4, fun c hcl => ?_⟩
      obtain ⟨u, u1, u2⟩ := b5 c hcl
      refine ⟨u, u1, ?_⟩
      have e : (entrySt [] out).sg.cell k c = s.sg.cell k c := by simp [St.sg, St.cell, entrySt, ho, q1]
      rw [e]
      refine u2.dirt ?_
      rw [← e]; exact hcell k c
    | none =>
      rw [ho] at hk
      cases hv : lk k (visOf 0 out) with
      | none => rw [hv] at hk; cases hk
      | some x =>
        rw [hv] at hk
        cases hk
        obtain ⟨q1, q2, q3⟩ := h2 k x hv
        obtain ⟨u, hu⟩ := hc.objs k .virt (by simp [St.sg, St.kind, q1, q2])
        have e : (entrySt [] out).sg.cell k 0 = s.sg.cell k 0 := by simp [St.sg, St.cell, entrySt, ho, q1, hv, q2]
        refine ⟨u, ?_⟩
        rw [e]
        refine hu.dirt ?_
        rw [← e]; exact hcell k 0
  · exact hc.maps k es (h3 k es hk)

theorem SVRep.dirt {w : World} {g : Gh} {d d' : Dirt} {r : Root} {n : Nat} {x : SV} {v : Value} (h : SVRep w g d r n x v) (hx : x.data = true) : SVRep w g d' r n x v := by
  have one : ∀ {n : Nat} {x : SV} {v : Value}, SVRep w g d r n x v → (match x with | .c x => x.data | .agg row => row.all C.data | .tup _ => false) = true → SVRep w g d' r n x v := by
    intro n x v h hx
    cases h with
    | c h => exact .c (h.dirt hx)
    | agg vs h =>
      simp only [List.all_eq_true] at hx
      exact .agg vs fun j x hj => (h j x hj).dirt (hx x (List.mem_of_getElem? hj))
    | tup vs h => cases hx
  cases h with
  | c h => exact one (.c h) hx
  | agg vs h => exact one (.agg vs h) hx
  | tup vs h =>
    simp only [SV.data, List.all_eq_true] at hx
    refine .tup vs fun j x hj => one (h j x hj) ?_
    have := hx x (List.mem_of_getElem? hj)
    cases x with
    | c x => exact this
    | agg row => simp only [Bool.and_eq_true] at this; exact this.1
    | tup l => cases this

theorem fn_returns {E : Env} {f : Nat} {fn : Func} {c : Code} {keep : List Nat} {fa : List SV} {rs : List AR} {res : SV} {out : List AR} (hmix : E.P.follows .mixedOrders = true) (hstep : Step1OK E fn.ntmps (Returns E))
    (hf : E.P.funcs[f]? = some fn) (hb : fn.body = some c) (hname : (fn.name == "runtime.NumGoroutine") = false) (hok : okCode fn.ntmps c = true) (hfa : fa.length ≤ fn.ntmps) (hd : res.data = true)
    (h : awp E.P (Returns E) keep c (fun ax s => match ax with | .exit _ => False | _ => fnPost E.P fn.results.toList res out s) (entrySt fa rs)) : Returns E f fa rs res out := by
  have hname' : ¬ fn.name = "runtime.NumGoroutine" := by simpa using hname
  refine ⟨hd, fun vals w => by simp [callFunc, hf, hb, hname'], fun w g vals hl hsz hc => ?_⟩
  have hc0 : Core E (entrySt fa rs).sg (vals ++ Array.replicate (fn.ntmps - vals.size) undef) w g := by
    refine Core.step hc (Keeps.refl _ _ _ _) (fun n => .inl ⟨rfl, rfl, ?_, fun c => Still.refl _ _ _ _⟩) (fun k kd h => .inl ⟨h, fun c => ⟨rfl, Still.refl _ _ _ _⟩, fun _ h => ⟨h, rfl⟩⟩) (fun k c => .inl rfl) (fun k es h => .inl ⟨h, fun _ h => ⟨h, rfl⟩⟩) (fun _ h => h) (fun b _ => ⟨rfl, rfl⟩) (Nat.le_refl _)
    simp only [Array.getD_eq_getD_getElem?]
    rcases Nat.lt_or_ge n vals.size with q | q
    · rw [Array.getElem?_append_left q]
    · rw [Array.getElem?_append_right q, Array.getElem?_eq_none q]
      rcases Nat.lt_or_ge (n - vals.size) (fn.ntmps - vals.size) with q2 | q2
      · simp [q2]
      · simp [Array.getElem?_eq_none, q2]
  refine calls_of_wp hf hb (wp_mono (awp_ok hmix hstep c _ (entrySt fa rs) { tmps := vals ++ Array.replicate (fn.ntmps - vals.size) undef, defers := [] } w g hok h hc0 (by simp; omega) hl _ w g (Move.refl _ _) rfl) fun e a' w' hq => ?_)
  obtain ⟨ax, s, g', rfl, hq, hc1, hm, hs1, hd1⟩ := hq
  have hpost : ∀ (hq : fnPost E.P fn.results.toList res out s), a'.defers = [] ∧ ∃ v, (results fn a'.tmps).run E.P w' = .ok v w' ∧ ∃ g', SVRep w' g' noDirt .ret 0 res v ∧ Core E (entrySt [] out).sg #[] w' g' ∧ Move w g w' g' := by
    intro hq
    unfold fnPost at hq
    rw [Rd.go_iff] at hq
    obtain ⟨hq1, hq2⟩ := hq
    obtain ⟨svs, l, l', us, hR, he⟩ := resRd_ok hq1
    rw [he] at hq1 hq2
    by_cases hdi : distinct (keysOf us) = true
    · rw [if_pos hdi] at hq1 hq2
      have hpack : pack svs = res := hq1
      have hout : outOK 0 out (s.upds us) := hq2
      obtain ⟨hl1, hl2⟩ := hR.lens
      obtain ⟨vsL, vsR, vr, v1, v2, v3⟩ := hR.vals hc1
      have vlen : vsR.length = svs.length := by rw [hl1]; exact vr.length.symm
      have htk := hR.tk
      let i0 : Nat := match svs with | [_] => 0 | _ => 1
      have hsort : (posOf i0 svs).Pairwise (· < ·) := by
        rcases svs with _ | ⟨x, _ | ⟨y, svs⟩⟩
        · exact .nil
        · exact posOf_one x
        · refine (posOf_sorted _ _ fun z hz row hrow => ?_).1
          have hp : (SV.tup (x :: y :: svs)).data = true := by
            have : pack (x :: y :: svs) = .tup (x :: y :: svs) := rfl
            rw [← this, hpack]; exact hd
          simp only [SV.data, List.all_eq_true] at hp
          have := hp z hz
          subst hrow
          simp only [Bool.and_eq_true, decide_eq_true_eq] at this
          exact this.2
      have hpl : (posOf i0 svs).length = l.length := by rw [hl2, htk.length]
      obtain ⟨g2, tk, hcells⟩ := htk.core s.sg g' hc1 rfl rfl (fun _ _ _ _ h => h) hdi (fun j => ⟨.ret, (posOf i0 svs).getD j 0, []⟩) (fun j => vsL.getD j undef) (fun _ h => h) (fun i j hij hjl => by
        refine cell_apart _ ?_ _ _
        have hi' : i < (posOf i0 svs).length := by omega
        have hj' : j < (posOf i0 svs).length := by omega
        have := List.pairwise_iff_getElem.1 hsort i j hi' hj' hij
        simp only [List.getD, List.getElem?_eq_getElem hi', List.getElem?_eq_getElem hj', Option.getD_some]
        omega) (fun j x hj => by
        have hlt := lt_of_getElem? hj
        have hlt' : j < vsL.length := by omega
        refine v2 j x _ hj ?_
        simp [List.getD, List.getElem?_eq_getElem hlt'])
      have hparts := v3 g2 s.sg.dirty i0 (fun j x u p q1 q2 q3 => by
        have := hcells j x q1
        simp only [List.getD, q2, q3, Option.getD_some] at this
        exact this)
      refine ⟨hd1, packV vsR, run_results vr, g2, ?_, Core.out (s := s.upds us) (by rw [St.upds_sg]; exact tk.core) hout, hm.trans tk.move⟩
      refine SVRep.dirt (d := s.sg.dirty) ?_ hd
      rcases svs with _ | ⟨x, _ | ⟨y, svs⟩⟩
      · have : vsR = [] := List.length_eq_zero_iff.1 vlen
        subst this
        rw [← hpack]
        exact .tup (fun _ => undef) (by simp)
      · rcases vsR with _ | ⟨t, _ | ⟨u, vsR⟩⟩
        · cases vlen
        · have := hparts 0 x t rfl rfl
          rw [← hpack]
          exact this
        · simp at vlen
      · rcases vsR with _ | ⟨t, _ | ⟨u, vsR⟩⟩
        · cases vlen
        · simp at vlen
        · rw [← hpack]
          have := SVRep.tup (w := w') (g := g2) (d := s.sg.dirty) (r := .ret) (n := 0) (l := x :: y :: svs) (fun j => (t :: u :: vsR).getD j undef) (fun j z hj => by
            have hlt := lt_of_getElem? hj
            have hlt2 : j < (t :: u :: vsR).length := by omega
            have := hparts j z (t :: u :: vsR)[j] hj (List.getElem?_eq_getElem hlt2)
            simp only [List.getD, List.getElem?_eq_getElem hlt2, Option.getD_some]
            rw [show 0 + 64 * (j + 1) = 64 * (1 + j) by omega]
            exact this)
          have e : ((List.range (x :: y :: svs).length).map fun j => (t :: u :: vsR).getD j undef).toArray = (t :: u :: vsR).toArray := by
            congr 1
            apply List.ext_getElem?
            intro j
            rcases Nat.lt_or_ge j (t :: u :: vsR).length with q | q
            · have q' : j < (x :: y :: svs).length := by omega
              rw [List.getElem?_map, List.getElem?_range q', List.getElem?_eq_getElem q]
              simp only [Option.map_some, List.getD, List.getElem?_eq_getElem q, Option.getD_some]
            · have q' : (x :: y :: svs).length ≤ j := by omega
              rw [List.getElem?_eq_none (by simpa using q'), List.getElem?_eq_none q]
          rw [e] at this
          exact this
    · rw [if_neg hdi] at hq1; exact hq1.elim
  cases ax with
  | normal => exact hpost hq
  | ret => exact hpost hq
  | exit id => exact hq.elim
end Vx

namespace Vx
open Go Classical
set_option linter.unusedSimpArgs false
set_option linter.unusedVariables false

/-! ## Calls -/
structure Bridge (g gh : Gh) (cl : Bool) : Prop where
  lim : gh.lim = g.lim
  fz : ∀ b, g.ow b = .frozen → gh.ow b = .frozen
  own : cl = false → ∀ b a, g.ow b = .own a → gh.ow b = .frozen
theorem Bridge.left {g gh : Gh} {c1 c2 : Bool} (h : Bridge g gh (c1 && c2)) : Bridge g gh c1 := ⟨h.lim, h.fz, fun e => h.own (by simp [e])⟩
theorem Bridge.right {g gh : Gh} {c1 c2 : Bool} (h : Bridge g gh (c1 && c2)) : Bridge g gh c2 := ⟨h.lim, h.fz, fun e => h.own (by simp [e])⟩

/-- The callee sees `z` where the caller has `x`. -/
structure Pass (E : Env) (σ : Sg) (x z : C) (p : Prop) (cl : Bool) : Prop where
  own : p → x.isOwn = false → z.isOwn = false
  roots : z.roots = []
  rep : p → x.isOwn = false → ∀ (tmps : Array Value) (w : World) (g gh : Gh) (v : Value) (a : CA), Core E σ tmps w g → Bridge g gh cl → CRep w g σ.dirty a x v → CRep w gh noDirt a z v
inductive PassL (E : Env) (σ : Sg) : List C → List C → Prop → Bool → Prop where
  | nil : PassL E σ [] [] True true
  | cons {x z l m p q c1 c2} (h : Pass E σ x z p c1) (t : PassL E σ l m q c2) : PassL E σ (x :: l) (z :: m) (p ∧ q) (c1 && c2)
theorem PassL.spec {E : Env} {σ : Sg} {l m : List C} {p : Prop} {cl : Bool} (h : PassL E σ l m p cl) : m.length = l.length ∧ (∀ z ∈ m, (p → (∀ x ∈ l, x.isOwn = false) → z.isOwn = false) ∧ z.roots = []) ∧
    (p → ∀ (tmps : Array Value) (w : World) (g gh : Gh), Core E σ tmps w g → Bridge g gh cl → ∀ (j : Nat) (x z : C) (v : Value) (a : CA), l[j]? = some x → m[j]? = some z → x.isOwn = false → CRep w g σ.dirty a x v → CRep w gh noDirt a z v) := by
  induction h with
  | nil => exact ⟨rfl, by simp, fun _ tmps w g gh _ _ j x z v a h => by simp at h⟩
  | cons h t ih =>
    obtain ⟨i1, i2, i3⟩ := ih
    refine ⟨by simp [i1], fun y hy => ?_, fun hp tmps w g gh hc hb j x z v a hj hz hx hr => ?_⟩
    · rcases List.mem_cons.1 hy with e | e
      · subst e; exact ⟨fun hp hx => h.own hp.1 (hx _ (by simp)), h.roots⟩
      · exact ⟨fun hp hx => (i2 y e).1 hp.2 fun x h => hx x (by simp [h]), (i2 y e).2⟩
    · cases j with
      | zero =>
        simp only [List.getElem?_cons_zero, Option.some.injEq] at hj hz
        subst hj hz
        exact h.rep hp.1 hx tmps w g gh v a hc hb.left hr
      | succ j => exact i3 hp.2 tmps w g gh hc hb.right j x z v a (by simpa using hj) (by simpa using hz) hx hr
mutual
theorem passC_ok {E : Env} {σ : Sg} : ∀ (x : C) {f : C → Prop → Bool → Rd Eff}, ((passC [] x f).run σ).ok → ∃ z p cl, Pass E σ x z p cl ∧ (passC [] x f).run σ = (f z p cl).run σ
  | .t y, f, h => by
    simp only [passC] at h ⊢
    exact ⟨.t y, True, true, ⟨fun _ h => h, rfl, fun _ hx tmps w g gh v a hc hb hr => by
        cases hr with
        | t hr => exact .t (.fro ((hr.isFro fun sz xs e => by subst e; simp [C.isOwn] at hx).frame (by rw [hb.lim]; exact Nat.le_refl _) fun b _ h => ⟨hb.fz b h, rfl⟩))⟩, rfl⟩
  | .ref a, f, h => by
    simp only [passC, List.findIdx?_nil, List.any_nil, Bool.false_eq_true, if_false] at h ⊢
    obtain ⟨t, y, e, hat, hp⟩ := deref_is h
    rw [e] at h ⊢
    by_cases ho : y.isOwn = true
    · rw [if_pos ho] at h ⊢
      refine ⟨.t y.view, True, false, ⟨fun _ _ => ?_, rfl, fun _ _ tmps w g gh v a' hc hb hr => ?_⟩, rfl⟩
      · cases y with
        | sl o sz xs => rw [T.view_sl]; rfl
        | _ => cases ho
      · obtain ⟨u, hu⟩ := hc.deref hat hp.slot hp.obj hp.nret
        have hv : v = u := by
          cases hr with
          | ref hr _ =>
            rw [hr hp.dirty]
            cases y with
            | sl o sz xs =>
              cases o with
              | true => exact hu.own_hd.symm
              | false => cases ho
            | _ => cases ho
        rw [hv]
        exact .t (.fro (hu.freeze (by rw [hb.lim]; exact Nat.le_refl _) (fun b _ h => hb.fz b h) (fun b a' _ _ h => hb.own rfl b a' h)))
    · rw [if_neg ho] at h; exact h.elim
  | .ptr ⟨r, c, q⟩, f, h => by
    cases r with
    | obj k =>
      cases q with
      | nil => simp only [passC, List.findIdx?_nil] at h; exact h.elim
      | cons _ _ => exact h.elim
    | _ => exact h.elim
  | .fp row c, f, h => by
    simp only [passC] at h ⊢
    refine ⟨_, _, _, ⟨fun _ _ => rfl, rfl, fun _ _ tmps w g gh v a hc hb hr => ?_⟩, rfl⟩
    cases hr with
    | fp vs hh ho hcell hrec => exact .fp vs hh (hb.fz _ ho) hcell fun j x hj => (hrec j x hj).frame (by rw [hb.lim]; exact Nat.le_refl _) fun b _ h => ⟨hb.fz b h, rfl⟩
  | .clo g caps, f, h => by
    simp only [passC] at h ⊢
    obtain ⟨m, p, cl, hP, e⟩ := passL_ok (E := E) caps h
    obtain ⟨p1, p2, p3⟩ := hP.spec
    refine ⟨.clo g m, p, cl, ⟨fun _ _ => rfl, ?_, fun hp _ tmps w g0 gh v a hc hb hr => ?_⟩, e⟩
    · simp only [C.roots]
      rw [List.eq_nil_iff_forall_not_mem]
      intro r hr
      obtain ⟨z, hz, hr⟩ := C.mem_rootsL.1 hr
      rw [(p2 z hz).2] at hr
      cases hr
    · cases hr with
      | clo vs hn hcap =>
        rw [← p1]
        refine .clo vs (fun z hz => (p2 z hz).1 hp hn) fun j z hj => ?_
        have hlt := lt_of_getElem? hj
        have hlt' : j < caps.length := by omega
        exact p3 hp tmps w g0 gh hc hb j caps[j] z (vs j) a (List.getElem?_eq_getElem hlt') hj (hn _ (List.getElem_mem hlt')) (hcap j _ (List.getElem?_eq_getElem hlt'))
  | .mp k, f, h => by simp only [passC, List.findIdx?_nil] at h; exact h.elim
theorem passL_ok {E : Env} {σ : Sg} : ∀ (l : List C) {f : List C → Prop → Bool → Rd Eff}, ((passL [] l f).run σ).ok → ∃ m p cl, PassL E σ l m p cl ∧ (passL [] l f).run σ = (f m p cl).run σ
  | [], f, h => ⟨[], True, true, .nil, by simp only [passL]⟩
  | x :: l, f, h => by
    simp only [passL] at h ⊢
    obtain ⟨z, p, c1, h1, e1⟩ := passC_ok (E := E) x h
    rw [e1] at h ⊢
    obtain ⟨m, q, c2, h2, e2⟩ := passL_ok (E := E) l h
    exact ⟨_, _, _, .cons h1 h2, e2⟩
end

inductive PassA (E : Env) (σ : Sg) : List Operand → List SV → Prop → Bool → Prop where
  | nil : PassA E σ [] [] True true
  | c {x y z l m p q c1 c2} (hx : ∃ sv, sv = SV.c y ∧ (∀ a tmps w g, Core E σ (Act.tmps a) w g → tmps = a.tmps → LIM ≤ g.lim → okOpd x = true → SVRep w g σ.dirty .ret 0 sv (a.eval x))) (hy : y.isOwn = false) (h : Pass E σ y z p c1) (t : PassA E σ l m q c2) : PassA E σ (x :: l) (.c z :: m) (p ∧ q) (c1 && c2)
  | agg {x row zs l m p q c1 c2} (hx : ∃ sv, sv = SV.agg row ∧ (∀ a tmps w g, Core E σ (Act.tmps a) w g → tmps = a.tmps → LIM ≤ g.lim → okOpd x = true → SVRep w g σ.dirty .ret 0 sv (a.eval x))) (hy : ∀ y ∈ row, y.isOwn = false) (h : PassL E σ row zs p c1) (t : PassA E σ l m q c2) : PassA E σ (x :: l) (.agg zs :: m) (p ∧ q) (c1 && c2)
theorem passArgs_ok {E : Env} {σ : Sg} : ∀ (l : List Operand) {f : List SV → Prop → Bool → Rd Eff}, ((passArgs [] l f).run σ).ok → ∃ m p cl, PassA E σ l m p cl ∧ (passArgs [] l f).run σ = (f m p cl).run σ
  | [], f, h => ⟨[], True, true, .nil, by simp only [passArgs]⟩
  | x :: l, f, h => by
    simp only [passArgs] at h ⊢
    obtain ⟨sv, e, hr, e2, e3, _⟩ := rdS_ok2 h
    rw [e] at h ⊢
    cases sv with
    | c y =>
      simp only at h ⊢
      obtain ⟨z, p, c1, h1, e1⟩ := passC_ok (E := E) y h
      rw [e1] at h ⊢
      obtain ⟨m, q, c2, h2, e4⟩ := passArgs_ok (E := E) l h
      exact ⟨_, _, _, .c ⟨_, rfl, fun a tmps w g hc _ hl ho => e2 E a w g hc hl ho .ret⟩ (e3 _ rfl y (by simp)) h1 h2, e4⟩
    | agg row =>
      simp only at h ⊢
      obtain ⟨zs, p, c1, h1, e1⟩ := passL_ok (E := E) row h
      rw [e1] at h ⊢
      obtain ⟨m, q, c2, h2, e4⟩ := passArgs_ok (E := E) l h
      exact ⟨_, _, _, .agg ⟨_, rfl, fun a tmps w g hc _ hl ho => e2 E a w g hc hl ho .ret⟩ (e3 _ rfl) h1 h2, e4⟩
    | tup l => exact h.elim
theorem PassA.spec {E : Env} {σ : Sg} {l : List Operand} {m : List SV} {p : Prop} {cl : Bool} (h : PassA E σ l m p cl) : m.length = l.length ∧ (∀ z ∈ m, z.roots = [] ∧ z.flat = true) ∧
    (p → ∀ (a : Act) (w : World) (g gh : Gh), Core E σ a.tmps w g → LIM ≤ g.lim → (∀ x ∈ l, okOpd x = true) → Bridge g gh cl → ∀ (j : Nat) (x : Operand) (z : SV) (r : Root), l[j]? = some x → m[j]? = some z → SVRep w gh noDirt r 0 z (a.eval x)) := by
  induction h with
  | nil => exact ⟨rfl, by simp, fun _ a w g gh _ _ _ _ j x z r h => by simp at h⟩
  | @c x y z l m p q c1 c2 hx hy h t ih =>
    obtain ⟨i1, i2, i3⟩ := ih
    refine ⟨by simp [i1], fun y' hy' => ?_, fun hp a w g gh hc hl ho hb j x' z' r hj hz => ?_⟩
    · rcases List.mem_cons.1 hy' with e | e
      · subst e; exact ⟨h.roots, rfl⟩
      · exact i2 y' e
    · cases j with
      | zero =>
        simp only [List.getElem?_cons_zero, Option.some.injEq] at hj hz
        subst hj hz
        obtain ⟨sv, rfl, hx⟩ := hx
        have := hx a _ w g hc rfl hl (ho _ (by simp))
        cases this with | c this => exact .c ((h.rep hp.1 hy a.tmps w g gh _ _ hc hb.left this).repos (h.own hp.1 hy))
      | succ j => exact i3 hp.2 a w g gh hc hl (fun x hx => ho x (by simp [hx])) hb.right j x' z' r (by simpa using hj) (by simpa using hz)
  | @agg x row zs l m p q c1 c2 hx hy h t ih =>
    obtain ⟨i1, i2, i3⟩ := ih
    obtain ⟨s1, s2, s3⟩ := h.spec
    refine ⟨by simp [i1], fun y' hy' => ?_, fun hp a w g gh hc hl ho hb j x' z' r hj hz => ?_⟩
    · rcases List.mem_cons.1 hy' with e | e
      · subst e
        refine ⟨?_, rfl⟩
        simp only [SV.roots]
        rw [List.eq_nil_iff_forall_not_mem]
        intro r hr
        obtain ⟨z, hz, hr⟩ := C.mem_rootsL.1 hr
        rw [(s2 z hz).2] at hr
        cases hr
      · exact i2 y' e
    · cases j with
      | zero =>
        simp only [List.getElem?_cons_zero, Option.some.injEq] at hj hz
        subst hj hz
        obtain ⟨sv, rfl, hx⟩ := hx
        have := hx a _ w g hc rfl hl (ho _ (by simp))
        revert this
        generalize a.eval x = v
        intro this
        cases this with
        | agg vs this =>
          rw [← s1]
          refine .agg vs fun k z hk => ?_
          have hlt := lt_of_getElem? hk
          have hlt' : k < row.length := by omega
          exact (s3 hp.1 a.tmps w g gh hc hb.left k row[k] z (vs k) _ (List.getElem?_eq_getElem hlt') hk (hy _ (List.getElem_mem hlt')) (this k _ (List.getElem?_eq_getElem hlt'))).repos ((s2 z (List.mem_of_getElem? hk)).1 hp.1 hy)
      | succ j => exact i3 hp.2 a w g gh hc hl (fun x hx => ho x (by simp [hx])) hb.right j x' z' r (by simpa using hj) (by simpa using hz)
end Vx

namespace Vx
open Go Classical
set_option linter.unusedSimpArgs false
set_option linter.unusedVariables false

theorem Rep.mapN {w w' : World} {g g' : Gh} (f : CA → CA) {a : CA} {t : T} {v : Value} (h : Rep w g a t v) (hn : t.noFz = true) (hl : g.lim ≤ g'.lim) (hf : ∀ a', a'.under a → ∀ s, f (a'.hop s) = (f a').hop s)
    (how : ∀ b a', b < w.heap.size → a'.under a → g.ow b = .own a' → g'.ow b = .own (f a') ∧ w'.heap[b]? = w.heap[b]?) (hhd : ∀ a', a'.under a → g'.hd (f a') = g.hd a') : Rep w' g' (f a) t v := by
  induction h with
  | @fro a t v h =>
    cases h with
    | int => exact .fro .int
    | bool => exact .fro .bool
    | str h => exact .fro (.str (Nat.le_trans h hl))
    | val => exact .fro .val
    | top => exact .fro .top
    | nil => exact .fro .nil
    | fnil => exact .fro .fnil
    | @fz b off cap sz xs cs el fr vs hh ho hcap hlim hrow hcell hrec =>
      rw [T.noFz_sl] at hn
      simp only [Bool.false_or, Bool.and_eq_true, List.isEmpty_iff] at hn
      have : xs = [] := hn.1
      subst this
      exact .fro .fnil
  | onil hd => exact .onil ((hhd _ (CA.under_refl _)).trans hd)
  | @own a b off cap sz xs cs el vs hd hh ho hsize hcap hlim hrow hcell hrec ih =>
    obtain ⟨ho', hw'⟩ := how _ a (lt_of_heap hh) (CA.under_refl _) ho
    rw [T.noFz_sl] at hn
    simp only [Bool.true_or, Bool.true_and, List.all_eq_true] at hn
    refine .own vs ((hhd _ (CA.under_refl _)).trans hd) (hw'.trans hh) ho' hsize hcap (Nat.le_trans hlim hl) hrow hcell fun i row c t h1 h2 => ?_
    have := ih i row c t h1 h2 (hn row (List.mem_of_getElem? h1) t (List.mem_of_getElem? h2)) (fun a' h => hf a' (CA.under_of_hop h)) (fun b a' hl h => how b a' hl (CA.under_of_hop h)) (fun a' h => hhd a' (CA.under_of_hop h))
    rw [hf a (CA.under_refl _)] at this
    exact this

/-- Data moves from one root to another. -/
theorem SVRep.mapData {w w' : World} {g g' : Gh} {d d' : Dirt} {r r' : Root} {sv : SV} {v : Value} (h : SVRep w g d r 0 sv v) (hd : sv.data = true)
    (hrep : ∀ (c : Nat) (t : T) (u : Value), (sv.noFz = true → t.noFz = true) → Rep w g ⟨r, c, []⟩ t u → Rep w' g' ⟨r', c, []⟩ t u) : SVRep w' g' d' r' 0 sv v := by
  have cell : ∀ {c : Nat} {x : C} {u : Value}, x.data = true → (sv.noFz = true → x.noFz = true) → CRep w g d ⟨r, c, []⟩ x u → CRep w' g' d' ⟨r', c, []⟩ x u := by
    intro c x u hx hn hr
    cases hr with
    | t hr => exact .t (hrep c _ u hn hr)
    | _ => cases hx
  cases h with
  | c h => exact .c (cell hd (fun e => e) h)
  | agg vs h =>
    simp only [SV.data, List.all_eq_true] at hd
    refine .agg vs fun j x hj => ?_
    exact cell (hd x (List.mem_of_getElem? hj)) (fun e => by simp only [SV.noFz, List.all_eq_true] at e; exact e x (List.mem_of_getElem? hj)) (h j x hj)
  | tup vs h =>
    simp only [SV.data, List.all_eq_true] at hd
    refine .tup vs fun j x hj => ?_
    have hm := List.mem_of_getElem? hj
    have hdx := hd x hm
    have hnx : (SV.tup _).noFz = true → _ := fun e => by simp only [SV.noFz, List.all_eq_true] at e; exact e x hm
    have hx := h j x hj
    revert hx
    generalize vs j = u
    intro hx
    cases hx with
    | c hx => exact .c (cell hdx (fun e => hnx e) hx)
    | agg us hx =>
      simp only [Bool.and_eq_true, List.all_eq_true] at hdx
      refine .agg us fun i y hi => ?_
      exact cell (hdx.1 y (List.mem_of_getElem? hi)) (fun e => by have := hnx e; simp only [List.all_eq_true] at this; exact this y (List.mem_of_getElem? hi)) (hx i y hi)
    | tup us hx => cases hdx
theorem SV.data_flat {sv : SV} (h : sv.data = true) : sv.flat = true := by
  cases sv with
  | tup l =>
    simp only [SV.data, SV.flat, List.all_eq_true] at *
    intro x hx
    have := h x hx
    cases x with
    | c y => rfl
    | agg row => simp only [Bool.and_eq_true] at this; exact this.2
    | tup l => cases this
  | _ => rfl
theorem SV.data_roots {sv : SV} (h : sv.data = true) : sv.roots = [] := by
  have cell : ∀ {x : C}, x.data = true → x.roots = [] := by
    intro x hx
    cases x with
    | t y => rfl
    | _ => cases hx
  have row : ∀ {l : List C}, l.all C.data = true → C.rootsL l = [] := by
    intro l hl
    rw [List.eq_nil_iff_forall_not_mem]
    intro r hr
    obtain ⟨z, hz, hr⟩ := C.mem_rootsL.1 hr
    simp only [List.all_eq_true] at hl
    rw [cell (hl z hz)] at hr
    cases hr
  cases sv with
  | c x => exact cell h
  | agg l => exact row h
  | tup l =>
    simp only [SV.roots]
    rw [List.eq_nil_iff_forall_not_mem]
    intro r hr
    obtain ⟨z, hz, hr⟩ := SV.mem_rootsL.1 hr
    simp only [SV.data, List.all_eq_true] at h
    have := h z hz
    cases z with
    | c x => simp only [SV.roots] at hr; rw [cell this] at hr; cases hr
    | agg l => simp only [Bool.and_eq_true] at this; simp only [SV.roots] at hr; rw [row this.1] at hr; cases hr
    | tup l => cases this

/-- The callee's ghost. -/
def calleeGh (g : Gh) (cl : Bool) : Gh :=
  { g with ow := fun b => match g.ow b with
    | .own _ => if cl then .other else .frozen
    | .box _ => .other
    | t => t }
/-- The caller's ghost, after. -/
noncomputable def backGh (n : Nat) (r0 : Root) (g gh : Gh) : Gh :=
  { g with
    ow := fun b => if b < n then g.ow b else match gh.ow b with
      | .own a => if a.root = .ret then .own { a with root := r0 } else .other
      | .box _ => .other
      | t => t
    hd := fun a => if a.root = r0 then gh.hd { a with root := .ret } else g.hd a }

section
variable {E : Env} {N : Nat} {o : Oper} {σ : Sg}
theorem call_gen (hN : okOper N o = true) {f : Nat} {fa : List SV} {cl : Bool} {res : SV} {ok : Prop} (hret : Returns E f fa [] res []) (hcl : cl = true ∨ res.noFz = true) (hput : ((put o res [] ok).run σ).ok)
    {a : Act} {w : World} {g : Gh} (hc : Core E σ a.tmps w g) (hs : a.tmps.size = N) (hl : LIM ≤ g.lim) {vals : Array Value} (s1 : vals.size = fa.length) (s2 : ∀ z ∈ fa, z.roots = [] ∧ z.flat = true)
    (hargs : ∀ (n : Nat) (z : SV) (r : Root), fa[n]? = some z → SVRep w (calleeGh g cl) noDirt r 0 z (vals.getD n undef)) (hex : (execOp a.eval o).run E.P w = .ok (.enter f vals) w)
    {K : Act → World → Prop} {Q : Exit → Act → World → Prop} (hK : ∀ a' w' g', Core E (σ.upds ((put o res [] ok).run σ).upd) a'.tmps w' g' → Move w g w' g' → a'.tmps.size = N → a'.defers = a.defers → K a' w') : o.wp E.P a w K Q := by
  obtain ⟨_, h2, h3⟩ := put_ok hput
  obtain ⟨hdata, hcall, hrun⟩ := hret
  have hlim : (calleeGh g cl).lim = g.lim := rfl
  have htag : ∀ b, (calleeGh g cl).ow b = .frozen ∨ (calleeGh g cl).ow b = .other := by
    intro b
    simp only [calleeGh]
    cases g.ow b with
    | own a => simp only; cases cl <;> simp
    | box k => simp
    | frozen => simp
    | other => simp
  have hent : Core E (entrySt fa []).sg vals w (calleeGh g cl) := by
    refine ⟨fun n => ?_, fun n => ?_, fun n r hr => ?_, fun k c r hr => ?_, fun k kd hk => ?_, fun k es hk => ?_, fun b hb => ?_, hc.size⟩
    · show SVRep w _ noDirt (.slot n) 0 ((entrySt fa []).slot n) _
      rw [entry_slot]
      cases hn : fa[n]? with
      | none => exact .c (.t (.fro .top))
      | some z => exact hargs n z _ hn
    · show ((entrySt fa []).slot n).flat = true
      rw [entry_slot]
      cases hn : fa[n]? with
      | none => rfl
      | some z => exact (s2 z (List.mem_of_getElem? hn)).2
    · have hr : r ∈ ((entrySt fa []).slot n).roots := hr
      rw [entry_slot] at hr
      cases hn : fa[n]? with
      | none => rw [hn] at hr; simp [SV.roots, C.roots] at hr
      | some z =>
        rw [hn] at hr
        simp only [Option.getD_some] at hr
        rw [(s2 z (List.mem_of_getElem? hn)).1] at hr
        cases hr
    · have hr : r ∈ ((entrySt fa []).cell k c).roots := hr
      simp [St.cell, entrySt, obsOf, visOf, lk, C.roots] at hr
    · have hk : (entrySt fa []).kind k = some kd := hk
      simp [St.kind, entrySt, obsOf, visOf, lk] at hk
    · have hk : (entrySt fa []).map k = some es := hk
      simp [St.map, entrySt, mpsOf, lk] at hk
    · obtain ⟨e1, e2⟩ := hc.glob b hb
      exact ⟨by simp [calleeGh, e1], e2⟩
  unfold Oper.wp
  rw [hex, Oper.upon_enter]
  refine Calls.mono (hrun w (calleeGh g cl) vals hl s1 hent) fun e w' he => ?_
  cases e with
  | returned v =>
    obtain ⟨gh', hres, _, hmv⟩ := he
    simp only
    -- the caller's ghost
    have hmem : ∀ b, b < w.heap.size → gh'.ow b = (calleeGh g cl).ow b ∧ w'.heap[b]? = w.heap[b]? := fun b hb => hmv.keep b hb (htag b)
    have main : ∀ (r0 : Root), ¬ σ.ex r0 → Core E σ a.tmps w' (backGh w.heap.size r0 g gh') ∧ Move w g w' (backGh w.heap.size r0 g gh') ∧ SVRep w' (backGh w.heap.size r0 g gh') σ.dirty r0 0 res v := by
      intro r0 hr0
      have how : ∀ b, b < w.heap.size → (backGh w.heap.size r0 g gh').ow b = g.ow b := fun b hb => by simp only [backGh]; rw [if_pos hb]
      have hhd : ∀ r c p, σ.ex r → (backGh w.heap.size r0 g gh').hd ⟨r, c, p⟩ = g.hd ⟨r, c, p⟩ := fun r c p hr => by
        simp only [backGh]
        rw [if_neg]
        rintro rfl
        exact hr0 hr
      have hst : ∀ r c, σ.ex r → Still w w' g (backGh w.heap.size r0 g gh') r c := fun r c hr => ⟨fun b p hb h => ⟨(how b hb).trans h, (hmem b hb).2⟩, fun p => hhd r c p hr⟩
      refine ⟨?_, ⟨hmv.size, rfl, fun b hb _ => ⟨how b hb, (hmem b hb).2⟩, fun _ _ => rfl, fun b k hb _ h => ⟨(how b hb).trans h, fun cs el fr hh => ⟨cs, (hmem b hb).2.trans hh, rfl, fun _ _ => rfl⟩⟩, hmv.env⟩, ?_⟩
      · exact Core.step hc ⟨Nat.le_refl _, fun b hb h => ⟨(how b hb).trans h, (hmem b hb).2⟩, fun r c hr hd => ⟨hd, fun p => hhd r c p hr⟩, fun _ _ => rfl⟩
          (fun n => .inl ⟨rfl, rfl, rfl, fun c => hst _ c (σ.rt_ex n)⟩) (fun k kd h => .inl ⟨h, fun c => ⟨rfl, hst _ c (.inr (.inl (by rw [h]; simp)))⟩, fun hb h => ⟨(how _ hb).trans h, (hmem _ hb).2⟩⟩) (fun k c => .inl rfl)
          (fun k es h => .inl ⟨h, fun hb h => ⟨(how _ hb).trans h, (hmem _ hb).2⟩⟩) (fun _ h => h) (fun b hb => ⟨how b (Nat.lt_of_lt_of_le hb hc.size), (hmem b (Nat.lt_of_lt_of_le hb hc.size)).2⟩) hmv.size
      · refine hres.mapData hdata fun c t u hn hr => ?_
        have hlim2 : gh'.lim ≤ (backGh w.heap.size r0 g gh').lim := by rw [hmv.lim]; exact Nat.le_refl _
        have hown : ∀ b a', a'.under ⟨.ret, c, []⟩ → gh'.ow b = .own a' → (backGh w.heap.size r0 g gh').ow b = .own { a' with root := r0 } := by
          intro b a' ha hb
          simp only [backGh]
          rw [if_neg]
          · rw [hb]
            simp only
            rw [if_pos ha.1]
          · intro hlt
            have := (hmem b hlt).1
            rw [hb] at this
            rcases htag b with q | q <;> rw [q] at this <;> cases this
        have hh : ∀ a', a'.under ⟨.ret, c, []⟩ → (backGh w.heap.size r0 g gh').hd { a' with root := r0 } = gh'.hd a' := by
          intro a' ha
          simp only [backGh, if_true]
          congr 1
          cases a'
          have := ha.1
          simp only at this
          simp [this]
        rcases hcl with hcl | hnf
        · subst hcl
          refine hr.map (fun a' => { a' with root := r0 }) hlim2 (fun _ _ _ => rfl) (fun b hb h => ⟨?_, rfl⟩) (fun b a' hb ha h => ⟨hown b a' ha h, rfl⟩) (fun a' ha => hh a' ha)
          simp only [backGh]
          by_cases hlt : b < w.heap.size
          · rw [if_pos hlt]
            have := (hmem b hlt).1
            rw [h] at this
            simp only [calleeGh] at this
            cases hg : g.ow b with
            | frozen => rfl
            | own a => rw [hg] at this; simp at this
            | box k => rw [hg] at this; simp at this
            | other => rw [hg] at this; simp at this
          · rw [if_neg hlt, h]
        · exact hr.mapN (fun a' => { a' with root := r0 }) (hn hnf) hlim2 (fun _ _ _ => rfl) (fun b a' hb ha h => ⟨hown b a' ha h, rfl⟩) (fun a' ha => hh a' ha)
    cases hd : o.dst with
    | none =>
      obtain ⟨e1, _⟩ := h3 hd
      obtain ⟨m1, m2, _⟩ := main .ret (fun h => h)
      refine hK _ w' _ ?_ m2 hs rfl
      rw [e1]
      exact m1
    | some d =>
      obtain ⟨hn, e1, _⟩ := h2 d hd
      obtain ⟨m1, m2, m3⟩ := main (.new d) (fun h => by simp [Sg.ex, hn] at h)
      refine hK _ w' _ ?_ m2 (by simpa [Act.put] using hs) rfl
      rw [e1]
      exact m1.put hn m3 (by rw [SV.data_roots hdata]; simp) (SV.data_flat hdata) (.inl (by rw [hs]; exact dst_lt hN hd))
  | panicked c => exact he.elim
  | outgrown => exact he.elim
theorem bridge_callee (g : Gh) (cl : Bool) : Bridge g (calleeGh g cl) cl := ⟨rfl, fun b hb => by simp [calleeGh, hb], fun hcl b a hb => by simp [calleeGh, hb, hcl]⟩
theorem call_ok (hN : okOper N o = true) {f : Nat} {xs : Array Operand} {ats : Array TypeId} {an : Ans} (ho : o.op = .call { callee := .value (.func f), args := xs, argTypes := ats })
    (h : ((stepCall (Returns E) o f xs.toList an).run σ).ok) : OpOK E N o σ ((stepCall (Returns E) o f xs.toList an).run σ).upd := by
  have hopd : ∀ x ∈ xs.toList, okOpd x = true := fun x hx => okOper_opd hN (by
    rw [ho]
    simp only [Op.operands, Call.operands]
    simp at hx
    simp [hx])
  unfold stepCall at h ⊢
  obtain ⟨fa, p, cl, hP, e⟩ := passArgs_ok (E := E) xs.toList h
  rw [e] at h ⊢
  obtain ⟨⟨hret, hp, hcl⟩, _, _⟩ := put_ok h
  obtain ⟨s1, s2, s3⟩ := hP.spec
  have hcall := hret.2.1
  intro a w g hc hs hl K Q hK
  have hargs := s3 hp a w g _ hc hl hopd (bridge_callee g cl)
  refine call_gen hN hret hcl h hc hs hl (vals := xs.map a.eval) (by simp [s1]) s2 (fun n z r hn => ?_) ?_ hK
  · have hlt := lt_of_getElem? hn
    have hlt' : n < xs.toList.length := by omega
    have := hargs n xs.toList[n] z r (List.getElem?_eq_getElem hlt') hn
    have e2 : (xs.map a.eval).getD n undef = a.eval xs.toList[n] := by
      have hlt2 : n < xs.size := by simpa using hlt'
      simp [Array.getD_eq_getD_getElem?, hlt2]
    rw [e2]
    exact this
  · simp only [execOp, ho, resolve, Act.eval, Deferred.ofValue, Sem.run_bind, Sem.run_pure, Result.andThen_ok, invoke]
    simpa using hcall (xs.map a.eval) w
/-- A call of a closure. -/
theorem callv_ok (hN : okOper N o = true) {n : Nat} {xs : Array Operand} {ats : Array TypeId} {an : Ans} (ho : o.op = .call { callee := .value (.tmp n), args := xs, argTypes := ats })
    (h : ((stepCallV (Returns E) o n xs.toList an).run σ).ok) : OpOK E N o σ ((stepCallV (Returns E) o n xs.toList an).run σ).upd := by
  have hopd : ∀ x ∈ xs.toList, okOpd x = true := fun x hx => okOper_opd hN (by
    rw [ho]
    simp only [Op.operands, Call.operands]
    simp at hx
    simp [hx])
  unfold stepCallV at h ⊢
  simp only [Rd.run] at h ⊢
  split at h
  · rename_i f caps hslot
    try simp only [hslot]
    obtain ⟨fa, p, c1, hP, e⟩ := passArgs_ok (E := E) xs.toList h
    rw [e] at h ⊢
    obtain ⟨cs, p2, c2, hP2, e'⟩ := passL_ok (E := E) caps h
    rw [e'] at h ⊢
    obtain ⟨⟨hret, ⟨hp, hp2⟩, hcl⟩, _, _⟩ := put_ok h
    obtain ⟨s1, s2, s3⟩ := hP.spec
    obtain ⟨t1, t2, t3⟩ := hP2.spec
    have hcall := hret.2.1
    intro a w g hc hs hl K Q hK
    have hbr := bridge_callee g (c1 && c2)
    have hargs := s3 hp a w g _ hc hl hopd hbr.left
    have hv := hc.slots n
    rw [hslot] at hv
    generalize hval : a.tmps.getD n undef = v at hv
    cases hv with
    | c hv =>
      cases hv with
      | clo vs hn hcap =>
        refine call_gen hN (cl := c1 && c2) hret hcl h hc hs hl (vals := xs.map a.eval ++ ((List.range caps.length).map vs).toArray) (by simp [s1, t1]) (fun z hz => ?_) (fun n z r hn' => ?_) ?_ hK
        · rcases List.mem_append.1 hz with e | e
          · exact s2 z e
          · obtain ⟨x, hx, rfl⟩ := List.mem_map.1 e
            exact ⟨(t2 x hx).2, rfl⟩
        · by_cases hlt : n < fa.length
          · rw [List.getElem?_append_left hlt] at hn'
            have hlt' : n < xs.toList.length := by omega
            have hlt2 : n < xs.size := by simpa using hlt'
            have := hargs n xs.toList[n] z r (List.getElem?_eq_getElem hlt') hn'
            have e2 : (xs.map a.eval ++ ((List.range caps.length).map vs).toArray).getD n undef = a.eval xs.toList[n] := by
              simp only [Array.getD_eq_getD_getElem?]
              rw [Array.getElem?_append_left (by simpa using hlt2)]
              simp [hlt2]
            rw [e2]
            exact this
          · rw [List.getElem?_append_right (by omega)] at hn'
            have hj := lt_of_getElem? hn'
            simp only [List.length_map] at hj
            simp only [List.getElem?_map, Option.map_eq_some_iff] at hn'
            obtain ⟨x, hx, rfl⟩ := hn'
            have hjc : n - fa.length < caps.length := by omega
            have hsz : xs.size = fa.length := by simpa using s1.symm
            have e2 : (xs.map a.eval ++ ((List.range caps.length).map vs).toArray).getD n undef = vs (n - fa.length) := by
              simp only [Array.getD_eq_getD_getElem?]
              rw [Array.getElem?_append_right (by simp; omega)]
              simp [hsz, hjc]
            rw [e2]
            have key := t3 hp2 a.tmps w g _ hc hbr.right (n - fa.length) caps[n - fa.length] x (vs (n - fa.length)) ⟨r, 0, []⟩ (List.getElem?_eq_getElem hjc) hx (hn _ (List.getElem_mem hjc)) ((hcap _ _ (List.getElem?_eq_getElem hjc)).repos (hn _ (List.getElem_mem hjc)))
            exact .c key
        · have he : a.eval (.tmp n) = .func (.func f) #[] ((List.range caps.length).map vs).toArray := hval
          simp only [execOp, ho, resolve, he, Deferred.ofValue, Sem.run_bind, Sem.run_pure, Result.andThen_ok, invoke]
          simpa using hcall _ w
  · exact h.elim
end
end Vx

namespace Vx
open Go Classical
set_option linter.unusedSimpArgs false
set_option linter.unusedVariables false

/-- A new slice, in a new block. -/
theorem Core.newslice {E : Env} {σ : Sg} {tmps : Array Value} {w : World} {g : Gh} (hc : Core E σ tmps w g) {d : Nat} (hd : d < tmps.size) (hn : σ.isnew d = false) {xs : List (List T)} {sz cap : Nat} {cs : Array Value} {el : TypeId} (vs : Nat → Nat → Value)
    (hsize : cs.size = cap * sz) (hcap : xs.length ≤ cap) (hlim : xs.length ≤ g.lim) (hrow : ∀ row ∈ xs, row.length = sz) (hcell : ∀ i c, i < xs.length → c < sz → cs[i * sz + c]? = some (vs i c))
    (hrec : ∀ (i : Nat) (row : List T) (c : Nat) (t : T), xs[i]? = some row → row[c]? = some t → Rep w g ⟨.new d, 0, [⟨i, sz, c⟩]⟩ t (vs i c)) :
    ∃ g', Core E (σ.upd (.slot d (.c (.t (.sl true sz xs))))) (tmps.setIfInBounds d (.slice (some ⟨w.heap.size, 0, none⟩) xs.length cap)) (w.alloc (.cells cs el (0, 0))) g' ∧ Move w g (w.alloc (.cells cs el (0, 0))) g' := by
  let hdr : Value := .slice (some ⟨w.heap.size, 0, none⟩) xs.length cap
  let hdf : CA → Value := fun a => if a = ⟨.new d, 0, []⟩ then hdr else g.hd a
  have hex : ∀ r c p, σ.ex r → hdf ⟨r, c, p⟩ = g.hd ⟨r, c, p⟩ := by
    intro r c p hr
    simp only [hdf]
    rw [if_neg]
    intro e
    cases e
    simp [Sg.ex, hn] at hr
  have hc1 := hc.fresh (ob := .cells cs el (0, 0)) (tag := .own ⟨.new d, 0, []⟩) (hd := hdf) (bl := g.bl) hex (fun _ _ => rfl)
  refine ⟨_, hc1.put hn (.c (.t ?_)) (by simp [SV.roots, C.roots]) rfl (.inl hd), fresh_move (w := w) (ob := .cells cs el (0, 0)) fun _ _ => rfl⟩
  refine .own (off := 0) (cs := cs) (el := el) vs ?_ (plus_new _ _) ?_ (by simpa using hsize) hcap hlim hrow (fun i c h1 h2 => by rw [Nat.zero_add]; exact hcell i c h1 h2) fun i row c t h1 h2 => ?_
  · simp [Gh.fresh, hdf, hdr]
  · simp [Gh.fresh]
  · refine (hrec i row c t h1 h2).fresh fun a' ha => ?_
    simp only [hdf]
    rw [if_neg]
    rintro rfl
    obtain ⟨_, _, s, e⟩ := ha
    simp at e

theorem mod_row (i sz c : Nat) (h : c < sz) : (i * sz + c) % sz = c := by
  rw [Nat.mul_comm, Nat.mul_add_mod, Nat.mod_eq_of_lt h]
theorem div_row (i sz c : Nat) (h : c < sz) : (i * sz + c) / sz = i := by
  have hpos : 0 < sz := by omega
  rw [Nat.mul_comm, Nat.mul_add_div hpos, Nat.div_eq_of_lt h]; rfl
theorem row_lt {i sz c n : Nat} (hi : i < n) (hc : c < sz) : i * sz + c < n * sz := by
  have : (i + 1) * sz ≤ n * sz := Nat.mul_le_mul_right sz hi
  rw [Nat.add_mul] at this
  omega

section
variable {E : Env} {N : Nat} {o : Oper} {σ : Sg}
theorem zero_at {w : World} {g : Gh} (hl : LIM ≤ g.lim) {z : Value} {zs : List T} (h1 : zs = z.cells.toList.map T.ofV) (h2 : z.cells.all smallC = true) {c : Nat} {t : T} {u : Value} (ht : zs[c]? = some t) (hu : z.cells[c]? = some u) (a : CA) : Rep w g a t u := by
  obtain ⟨_, q⟩ := zero_rel (w := w) (g := g) (d := noDirt) hl h1 h2 a
  have := (q c (.t t) u (by simp [ht]) hu).1
  cases this with | t h => exact h

theorem ok_makeSlice (hN : okOper N o = true) {t : TypeId} {l c : Operand} (ho : o.op = .makeSlice t l c) (h : ((astep E.P o).run σ).ok) : OpOK E N o σ ((astep E.P o).run σ).upd := by
  have hopl : okOpd l = true := okOper_opd hN (by rw [ho]; simp [Op.operands])
  have hopc : okOpd c = true := okOper_opd hN (by rw [ho]; simp [Op.operands])
  simp only [astep, ho] at h ⊢
  cases hi : tinfo E.P t with
  | none => rw [hi] at h; exact h.elim
  | some i =>
    obtain ⟨kd, agg, size, bytes, zero, fld, el⟩ := i
    cases el with
    | none => rw [hi] at h; exact h.elim
    | some e =>
      rw [hi] at h
      simp only at h ⊢
      cases hei : tinfo E.P e with
      | none => rw [hei] at h; exact h.elim
      | some ei =>
        rw [hei] at h
        simp only at h ⊢
        obtain ⟨ta, e1, ra⟩ := rdT_ok h
        rw [e1] at h ⊢
        obtain ⟨tb, e2, rb⟩ := rdT_ok h
        rw [e2] at h ⊢
        cases ta with
        | int k1 n =>
          cases tb with
          | int k2 m =>
            simp only at h ⊢
            obtain ⟨⟨h0, hnm, hlim, hby, hz2, hz1⟩, p2, p3⟩ := put_ok h
            subst hnm
            obtain ⟨inf, z, a1, a2, a3, a4, a5, a6⟩ := tinfo_zero hei hz1 hz2
            have hu := tinfo_elem hi rfl
            have hby' : ei.bytes = inf.bytes := by
              obtain ⟨inf', d', q1, _, _, q4, _⟩ := tinfo_some hei
              rw [a1] at q1; cases q1; exact q4
            intro a w g hc hs hl K Q hK
            obtain ⟨r1, hx⟩ := ra E a w g hc hl hopl
            obtain ⟨r2, hy⟩ := rb E a w g hc hl hopc
            have hvl : a.eval l = .int k1 n := by
              generalize a.eval l = v at hx
              cases hx with | fro hx => cases hx; rfl
            have hvc : a.eval c = .int k2 n := by
              generalize a.eval c = v at hy
              cases hy with | fro hy => cases hy; rfl
            obtain ⟨nn, rfl⟩ : ∃ nn : Nat, n = nn := ⟨n.toNat, by omega⟩
            have hnn : nn ≤ LIM := by omega
            have hwrap : IntKind.i64.wrap (nn : Int) = nn := by
              have : (nn : Int) ≤ 2 ^ 38 := by unfold LIM at hnn; omega
              rw [IntKind.wrap_i64]
              omega
            have hcsz : nn * ei.size = 0 ↔ nn = 0 := by
              constructor
              · intro q
                rcases Nat.mul_eq_zero.1 q with q | q
                · exact q
                · omega
              · rintro rfl; simp
            let cs : Array Value := (Array.range (nn * ei.size)).map (z.cells[· % z.cells.size]!)
            have hex : (execOp a.eval o).run E.P w = .ok (.value (.slice (some ⟨w.heap.size, 0, none⟩) nn nn)) (w.alloc (.cells cs e (0, 0))) := by
              have hw0 : ¬ ((nn : Int) < 0) := by omega
              have hbig : ¬ ((inf.bytes : Int) * (nn : Int) > 2 ^ 48) := by
                have h1 : inf.bytes * nn ≤ 256 * nn := Nat.mul_le_mul_right nn (by omega)
                have h2 : ((inf.bytes * nn : Nat) : Int) = (inf.bytes : Int) * (nn : Int) := by push_cast; rfl
                unfold LIM at hnn
                omega
              have hwl : ¬ (IntKind.i64.wrap (nn : Int) < 0) := by rw [hwrap]; exact hw0
              simp only [execOp, ho, hvl, hvc]
              have hbig' : ¬ ((281474976710656 : Int) < (inf.bytes : Int) * (nn : Int)) := by simpa using hbig
              by_cases h00 : nn * ei.size = 0
              · have hcs0 : cs = #[] := by simp [cs, h00]
                rw [hcs0]
                simp [Instr.makeSlice, run_underlying hu, asInt, asIntOf, typeInfo, a1, hwrap, hw0, hbig', Go.sizeOf, a5, zeroValue, a2, newRow, h00]
                have e0 : ∀ f : Nat → Value, Array.map f (Array.range 0) = #[] := fun f => Array.size_eq_zero_iff.1 (by simp)
                rw [e0]
              · simp [Instr.makeSlice, run_underlying hu, asInt, asIntOf, typeInfo, a1, hwrap, hw0, hbig', Go.sizeOf, a5, zeroValue, a2, newRow, h00, cs]
            unfold Oper.wp
            rw [hex, Oper.upon_value]
            have hsize : cs.size = nn * ei.size := by simp [cs]
            have hcell : ∀ i c, i < nn → c < ei.size → cs[i * ei.size + c]? = some (z.cells.getD c undef) := by
              intro i c hi hc'
              have hlt := row_lt hi hc'
              have hcz : c < z.cells.size := by omega
              simp only [cs]
              rw [Array.getElem?_map]
              simp [hlt, a6, mod_row i ei.size c hc', Array.getD_eq_getD_getElem?, getElem!_pos z.cells c hcz, Array.getElem?_eq_getElem hcz]
            cases hd : o.dst with
            | none =>
              obtain ⟨e3, _⟩ := p3 hd
              refine hK _ _ _ ?_ (fresh_move (w := w) (g := g) (ob := .cells cs e (0, 0)) (tag := .other) (hd := g.hd) (bl := g.bl) fun _ _ => rfl) hs rfl
              rw [e3]
              exact hc.fresh (fun _ _ _ _ => rfl) (fun _ _ => rfl)
            | some d =>
              obtain ⟨hn, e3, _⟩ := p2 d hd
              obtain ⟨g', hc', hm⟩ := hc.newslice (d := d) (by rw [hs]; exact dst_lt hN hd) hn (xs := List.replicate nn ei.zero) (sz := ei.size) (cap := nn) (cs := cs) (el := e) (fun _ c => z.cells.getD c undef) hsize (by simp) (by simp; omega) (fun row hr => by rw [(List.mem_replicate.1 hr).2]; exact hz1)
                (fun i c hi hc' => hcell i c (by simpa using hi) hc') (fun i row c t hr ht => by
                  have hrow : row = ei.zero := (List.mem_replicate.1 (List.mem_of_getElem? hr)).2
                  subst hrow
                  have hlt := lt_of_getElem? ht
                  have hcz : c < z.cells.size := by omega
                  exact zero_at hl a3 a4 ht (by simp [Array.getD_eq_getD_getElem?, hcz]) _)
              simp only [List.length_replicate] at hc'
              refine hK _ _ g' ?_ hm (by simpa [Act.put] using hs) rfl
              rw [e3]
              exact hc'
          | _ => exact h.elim
        | _ => exact h.elim
end
end Vx

namespace Vx
open Go Classical
set_option linter.unusedSimpArgs false
set_option linter.unusedVariables false

/-! ## Cells stored into an owned slice -/
theorem sub_some {t x : T} {h : Hop} (e : t.sub h = some x) : ∃ xs row, t = .sl true h.sz xs ∧ xs[h.i]? = some row ∧ row[h.c]? = some x := by
  cases t with
  | sl o sz xs =>
    cases o with
    | true =>
      simp only [T.sub] at e
      by_cases hs : h.sz = sz
      · rw [if_pos hs] at e
        cases hr : xs[h.i]? with
        | none => rw [hr] at e; cases e
        | some row => rw [hr] at e; subst hs; exact ⟨xs, row, rfl, hr, e⟩
      · rw [if_neg hs] at e; cases e
    | false => cases e
  | _ => cases e
theorem sub_setSub {t x u : T} {h : Hop} (e : t.sub h = some x) : (t.setSub h u).sub h = some u := by
  obtain ⟨xs, row, rfl, h1, h2⟩ := sub_some e
  have l1 := lt_of_getElem? h1
  have l2 := lt_of_getElem? h2
  simp only [T.setSub, T.sub, if_true]
  rw [List.getElem?_set_self l1]
  simp [List.getD, h1, l2]
theorem setSub_setSub {t x u v : T} {h : Hop} (e : t.sub h = some x) : (t.setSub h u).setSub h v = t.setSub h v := by
  obtain ⟨xs, row, rfl, h1, h2⟩ := sub_some e
  have l1 := lt_of_getElem? h1
  simp [T.setSub, List.getD, h1, l1]
theorem setSub_self {t x : T} {h : Hop} (e : t.sub h = some x) : t.setSub h x = t := by
  obtain ⟨xs, row, rfl, h1, h2⟩ := sub_some e
  have l1 := lt_of_getElem? h1
  have l2 := lt_of_getElem? h2
  have e1 : row = xs[h.i] := by rw [List.getElem?_eq_getElem l1] at h1; cases h1; rfl
  have e2 : x = row[h.c] := by rw [List.getElem?_eq_getElem l2] at h2; cases h2; rfl
  simp only [T.setSub, List.getD, h1, Option.getD_some]
  rw [e2, List.set_getElem_self, e1, List.set_getElem_self]
theorem at_put_self : ∀ {p : List Hop} {t x u : T}, t.at p = some x → (t.put p u).at p = some u
  | [], t, x, u, _ => rfl
  | h :: p, t, x, u, e => by
    simp only [T.at] at e ⊢
    cases hy : t.at p with
    | none => rw [hy] at e; cases e
    | some y =>
      rw [hy] at e
      simp only [Option.bind_some] at e
      simp only [T.put, hy]
      rw [at_put_self hy]
      exact sub_setSub e
theorem put_put : ∀ {p : List Hop} {t x u v : T}, t.at p = some x → (t.put p u).put p v = t.put p v
  | [], t, x, u, v, _ => rfl
  | h :: p, t, x, u, v, e => by
    simp only [T.at] at e
    cases hy : t.at p with
    | none => rw [hy] at e; cases e
    | some y =>
      rw [hy] at e
      simp only [Option.bind_some] at e
      simp only [T.put, hy, at_put_self hy]
      rw [put_put hy, setSub_setSub e]
theorem put_self : ∀ {p : List Hop} {t x : T}, t.at p = some x → t.put p x = t
  | [], t, x, e => by simp [T.at] at e; exact e.symm
  | h :: p, t, x, e => by
    simp only [T.at] at e
    cases hy : t.at p with
    | none => rw [hy] at e; cases e
    | some y =>
      rw [hy] at e
      simp only [Option.bind_some] at e
      simp only [T.put, hy]
      rw [setSub_self e, put_self hy]
def setCells (y : T) (h : Hop) : List T → T
  | [] => y
  | x :: l => setCells (y.setSub h x) { h with c := h.c + 1 } l
theorem putCells_eq {q : List Hop} : ∀ (ts : List T) (t y : T) (h : Hop), t.at q = some y → (∃ xs row, y = .sl true h.sz xs ∧ xs[h.i]? = some row ∧ h.c + ts.length ≤ row.length) → putCells t h q ts = t.put q (setCells y h ts)
  | [], t, y, h, e, _ => by simp only [putCells, setCells]; rw [put_self e]
  | x :: ts, t, y, h, e, hr => by
    obtain ⟨xs, row, rfl, h1, h2⟩ := hr
    simp only [List.length_cons] at h2
    simp only [putCells, setCells]
    have l1 := lt_of_getElem? h1
    have hput : t.put (h :: q) x = t.put q ((T.sl true h.sz xs).setSub h x) := by simp only [T.put, e]
    rw [hput]
    rw [putCells_eq ts _ ((T.sl true h.sz xs).setSub h x) { h with c := h.c + 1 } (at_put_self e) ⟨xs.set h.i (row.set h.c x), row.set h.c x, by simp [T.setSub, List.getD, h1], by simp [l1], by simp; omega⟩, put_put e]
theorem setCells_eq : ∀ (ts : List T) (h : Hop) (xs : List (List T)) (row : List T), xs[h.i]? = some row → h.c + ts.length ≤ row.length →
    setCells (.sl true h.sz xs) h ts = .sl true h.sz (xs.set h.i (row.take h.c ++ ts ++ row.drop (h.c + ts.length)))
  | [], h, xs, row, h1, h2 => by
    have l1 := lt_of_getElem? h1
    have e1 : row = xs[h.i] := by rw [List.getElem?_eq_getElem l1] at h1; cases h1; rfl
    simp only [setCells, List.append_nil, List.length_nil, Nat.add_zero, List.take_append_drop]
    rw [e1, List.set_getElem_self]
  | x :: ts, h, xs, row, h1, h2 => by
    have l1 := lt_of_getElem? h1
    simp only [List.length_cons] at h2
    simp only [setCells, T.setSub, List.getD, h1, Option.getD_some]
    have := setCells_eq ts { h with c := h.c + 1 } (xs.set h.i (row.set h.c x)) (row.set h.c x) (by simp [l1]) (by simp; omega)
    simp only at this
    rw [this]
    congr 1
    rw [List.set_set]
    congr 1
    have e1 : (row.set h.c x).take (h.c + 1) = row.take h.c ++ [x] := by
      apply List.ext_getElem?
      intro k
      rw [List.getElem?_take]
      have hl : (row.take h.c).length = h.c := by simp; omega
      by_cases k1 : k < h.c
      · rw [if_pos (by omega), List.getElem?_append_left (by omega), List.getElem?_take, if_pos k1, List.getElem?_set_ne (by omega)]
      · by_cases k2 : k = h.c
        · subst k2
          rw [if_pos (by omega), List.getElem?_append_right (by omega), List.getElem?_set_self (by omega), hl]
          simp
        · rw [if_neg (by omega), List.getElem?_append_right (by omega), hl]
          rw [List.getElem?_eq_none (by simp; omega)]
    have e2 : (row.set h.c x).drop (h.c + 1 + ts.length) = row.drop (h.c + (ts.length + 1)) := by
      apply List.ext_getElem?
      intro k
      rw [List.getElem?_drop, List.getElem?_drop, List.getElem?_set_ne (by omega)]
      congr 1
      omega
    rw [e1, e2]
    simp
end Vx

namespace Vx
open Go Classical
set_option linter.unusedSimpArgs false
set_option linter.unusedVariables false

/-- From the scratch root into cells of an owned slice's row: those of `ts` that own. -/
def pathRen (r : Root) (c : Nat) (h : Hop) (q : List Hop) (ts : List T) : Ren where
  S a := a.root = .ret ∧ ∃ x, ts[a.c]? = some x ∧ x.isOwn = true
  D a := a.root = r ∧ a.c = c ∧ ∃ s j x, a.path = s ++ { h with c := h.c + j } :: q ∧ ts[j]? = some x ∧ x.isOwn = true
  f a := ⟨r, c, a.path ++ { h with c := h.c + a.c } :: q⟩
  fi a := ⟨.ret, (a.path.getD (a.path.length - q.length - 1) default).c - h.c, a.path.take (a.path.length - q.length - 1)⟩
  inv := by
    rintro ⟨r0, j, p⟩ ⟨h1, x, h2, h3⟩
    simp only at h1 h2
    subst h1
    refine ⟨⟨rfl, rfl, p, j, x, rfl, h2, h3⟩, ?_⟩
    simp only [List.length_append, List.length_cons, CA.mk.injEq, true_and]
    rw [show p.length + (q.length + 1) - q.length - 1 = p.length by omega]
    constructor
    · simp [List.getD]
    · simp
  hop := by
    rintro ⟨r0, j, p⟩ h1 x
    exact ⟨h1, rfl⟩

theorem Rep.own_inv {w : World} {g : Gh} {a : CA} {sz : Nat} {xs : List (List T)} {v : Value} (h : Rep w g a (.sl true sz xs) v) (hne : xs ≠ []) : ∃ (b off cap : Nat) (cs : Array Value) (el : TypeId) (vs : Nat → Nat → Value), v = .slice (some ⟨b, off, none⟩) xs.length cap ∧
    g.hd a = .slice (some ⟨b, off, none⟩) xs.length cap ∧ w.heap[b]? = some (.cells cs el (0, 0)) ∧ g.ow b = .own a ∧ cs.size = off + cap * sz ∧ xs.length ≤ cap ∧ xs.length ≤ g.lim ∧ (∀ row ∈ xs, row.length = sz) ∧
    (∀ i c, i < xs.length → c < sz → cs[off + i * sz + c]? = some (vs i c)) ∧ ∀ (i : Nat) (row : List T) (c : Nat) (t : T), xs[i]? = some row → row[c]? = some t → Rep w g (a.hop ⟨i, sz, c⟩) t (vs i c) := by
  cases h with
  | fro h => exact h.noOwn.elim
  | onil => exact absurd rfl hne
  | own vs hd hh ho hsize hcap hlim hrow hcell hrec => exact ⟨_, _, _, _, _, vs, rfl, hd, hh, ho, hsize, hcap, hlim, hrow, hcell, hrec⟩
theorem Rep.ren2 {w w' : World} {g : Gh} {R : Ren} {p : CA} {t : T} {v : Value} (h : Rep w g p t v) (hf : ∀ b, b < w.heap.size → g.ow b = .frozen → w'.heap[b]? = w.heap[b]?)
    (hm : ∀ b a', b < w.heap.size → a'.under p → g.ow b = .own a' → w'.heap[b]? = w.heap[b]?) (hp : R.S p) : Rep w' (g.ren R) (R.f p) t v :=
  Rep.map (w' := w') (g' := g.ren R) R.f h (Nat.le_refl _) (fun a' ha s => (R.hop a' (R.under ha hp) s).2)
    (fun b hlt hb => ⟨Gh.ren_fz hb, hf b hlt hb⟩) (fun b a' hlt ha hb => ⟨by simp [Gh.ren, hb, R.under ha hp], hm b a' hlt ha hb⟩)
    (fun a' ha => by
      obtain ⟨h1, h2⟩ := R.inv a' (R.under ha hp)
      show (if R.D (R.f a') then g.hd (R.fi (R.f a')) else g.hd (R.f a')) = g.hd a'
      rw [if_pos h1, h2])

theorem splice_get {cs : Array Value} {vs : Nat → Value} {base n : Nat} (hle : base + n ≤ cs.size) (i : Nat) :
    ((cs.toList.take base ++ (List.range n).map vs ++ cs.toList.drop (base + n)).toArray)[i]? = if base ≤ i ∧ i < base + n then some (vs (i - base)) else cs[i]? := by
  simp only [List.getElem?_toArray]
  have hl1 : (cs.toList.take base).length = base := by simp; omega
  rw [List.append_assoc, List.getElem?_append, hl1]
  by_cases h1 : i < base
  · rw [if_pos h1, if_neg (by omega), List.getElem?_take, if_pos h1]
    simp
  · rw [if_neg h1, List.getElem?_append]
    simp only [List.length_map, List.length_range]
    by_cases h2 : i - base < n
    · rw [if_pos h2, if_pos (by omega)]
      simp [h2]
    · rw [if_neg h2, if_neg (by omega), List.getElem?_drop]
      simp only [Array.getElem?_toList]
      congr 1
      omega
theorem Core.dirtier {E : Env} {σ : Sg} {tmps : Array Value} {w : World} {g : Gh} (hc : Core E σ tmps w g) (d' : Dirt) (h : ∀ r c, d' r c = false → σ.dirty r c = false) : Core E { σ with dirty := d' } tmps w g := by
  have hex : ∀ r, σ.ex r → Sg.ex { σ with dirty := d' } r := fun r hr => by cases r <;> exact hr
  refine Core.step hc ⟨Nat.le_refl _, fun _ _ h => ⟨h, rfl⟩, fun r c _ hd => ⟨h r c hd, fun _ => rfl⟩, fun _ _ => rfl⟩ (fun n => .inl ⟨rfl, rfl, rfl, fun c => Still.refl _ _ _ _⟩)
    (fun k kd h => .inl ⟨h, fun c => ⟨rfl, Still.refl _ _ _ _⟩, fun _ h => ⟨h, rfl⟩⟩) (fun k c => .inl rfl) (fun k es h => .inl ⟨h, fun _ h => ⟨h, rfl⟩⟩) hex (fun b _ => ⟨rfl, rfl⟩) (Nat.le_refl _)

theorem TkL.place {σ : Sg} {l l' : List C} {us : List Upd} (h : TkL σ l l' us) : ∀ (τ : Sg), (∀ r c t, Upd.hole r c ∈ us → PlaceIs σ r c t → PlaceIs τ r c t) → distinct (keysOf us) = true → ∀ {r : Root} {c : Nat} {t : T}, PlaceIs τ r c t → Key.place r c ∉ keysOf us → PlaceIs (τ.upds us) r c t := by
  induction h with
  | nil => intro τ _ _ r c t hp _; exact hp
  | keep h ih => exact ih
  | @take r0 c0 t0 l l' us hp0 ht h ih =>
    intro τ hpl hdi r c t hp hk
    rw [distinct_iff] at hdi
    simp only [keysOf, Upd.key, List.singleton_append, List.nodup_cons] at hdi
    simp only [keysOf, Upd.key, List.singleton_append, List.mem_cons, not_or] at hk
    have hp1 := hpl r0 c0 t0 (by simp) hp0
    exact ih (τ.upd (.set r0 c0 (t0.put [] .top))) (fun r' c' t' hm hp' => hp1.hole (hpl r' c' t' (by simp [hm]) hp') (by
      rintro ⟨rfl, rfl⟩
      exact hdi.1 (keysOf_mem hm (by simp [Upd.key])))) ((distinct_iff _).2 hdi.2) (hp1.hole hp (by
      rintro ⟨rfl, rfl⟩
      exact hk.1 rfl)) hk.2

section
variable {E : Env} {N : Nat} {o : Oper} {σ : Sg}
/-- Cells written into a row of an owned slice. -/
theorem Core.storePath {tmps : Array Value} {w : World} {g : Gh} (hc : Core E σ tmps w g) {r : Root} {c : Nat} {t : T} {h : Hop} {q : List Hop} {xs : List (List T)} {row : List T} (hp : PlaceIs σ r c t) (hy : t.at q = some (.sl true h.sz xs))
    (hrow : xs[h.i]? = some row) {ts : List T} (hlen : h.c + ts.length ≤ row.length) {vs : Nat → Value} (hts : ∀ j x, ts[j]? = some x → Rep w g ⟨.ret, j, []⟩ x (vs j)) :
    ∃ b off n cap cs el, g.hd ⟨r, c, q⟩ = .slice (some ⟨b, off, none⟩) n cap ∧ w.heap[b]? = some (.cells cs el (0, 0)) ∧ off + h.i * h.sz + h.c + ts.length ≤ cs.size ∧
      ∀ (d' : Dirt), (∀ r' c', d' r' c' = false → σ.dirty r' c' = false) → (ts.any T.isOwn = true → d' r c = true) → ∀ cs', cs' = (cs.toList.take (off + h.i * h.sz + h.c) ++ (List.range ts.length).map vs ++ cs.toList.drop (off + h.i * h.sz + h.c + ts.length)).toArray →
        Core E ({ σ with dirty := d' }.upd (.set r c (putCells t h q ts))) tmps (w.setRow b cs') (g.ren (pathRen r c h q ts)) ∧ Move w g (w.setRow b cs') (g.ren (pathRen r c h q ts)) := by
  obtain ⟨u0, hu0⟩ := hp.rep hc
  obtain ⟨uy, huy, _⟩ := hu0.at hy
  rw [CA.go_mk] at huy
  have hne : xs ≠ [] := by rintro rfl; simp at hrow
  obtain ⟨b, off, cap, cs, el, vs0, _, hhd, hh, ho, hsize, hcap, hlim, hrw, hcell, hrec⟩ := huy.own_inv hne
  · have hi := lt_of_getElem? hrow
    have hrl : row.length = h.sz := hrw row (List.mem_of_getElem? hrow)
    have hbound : off + h.i * h.sz + h.c + ts.length ≤ cs.size := by
      have h1 : (h.i + 1) * h.sz ≤ cap * h.sz := Nat.mul_le_mul_right _ (by omega)
      rw [Nat.add_mul] at h1
      omega
    refine ⟨b, off, _, cap, cs, el, hhd, hh, hbound, fun d' hd1 hd2 cs' hcs => ?_⟩
    have hget : ∀ i, cs'[i]? = if off + h.i * h.sz + h.c ≤ i ∧ i < off + h.i * h.sz + h.c + ts.length then some (vs (i - (off + h.i * h.sz + h.c))) else cs[i]? := fun i => by rw [hcs]; exact splice_get (vs := vs) hbound i
    have hnb : ∀ b', g.ow b' ≠ .own ⟨r, c, q⟩ → (w.setRow b cs').heap[b']? = w.heap[b']? := fun b' hb => setRow_other w _ b' _ (fun e => hb (e ▸ ho))
    have hS : ∀ r' j p, σ.ex r' → ¬ (pathRen r c h q ts).S ⟨r', j, p⟩ := by
      rintro r' j p hr ⟨h1, _⟩
      simp only at h1
      subst h1
      exact hr
    have hrne : r ≠ .ret := hp.nret
    have hDu : ∀ a, (pathRen r c h q ts).D a → a.under ⟨r, c, q⟩ ∧ a ≠ ⟨r, c, q⟩ ∧ ts.any T.isOwn = true := by
      rintro a ⟨h1, h2, s, j, x, h3, h4, h5⟩
      refine ⟨⟨h1, h2, s ++ [{ h with c := h.c + j }], by rw [h3]; simp⟩, ?_, ?_⟩
      · rintro rfl
        have := congrArg List.length h3
        simp at this
        omega
      · rw [List.any_eq_true]
        exact ⟨x, List.mem_of_getElem? h4, h5⟩
    have hkeep : Keeps w (w.setRow b cs') g (g.ren (pathRen r c h q ts)) d' d' σ.ex := by
      refine ⟨Nat.le_refl _, fun b' hb hf => ⟨Gh.ren_fz hf, hnb b' (by rw [hf]; intro e; cases e)⟩, fun r' j hr hd => ⟨hd, fun p => Gh.ren_hd fun hD => ?_⟩, fun _ _ => rfl⟩
      obtain ⟨e1, _, e3⟩ := hDu _ hD
      have er : r' = r := e1.1
      have ec : j = c := e1.2.1
      subst er ec
      rw [hd2 e3] at hd
      cases hd
    have hex' : ∀ r, σ.ex r → Sg.ex { σ with dirty := d' } r := fun r hr => by cases r <;> exact hr
    have hkeep' : Keeps w (w.setRow b cs') g (g.ren (pathRen r c h q ts)) d' d' (Sg.ex { σ with dirty := d' }) := ⟨hkeep.lim, hkeep.fz, fun r' c' hr => hkeep.ref r' c' (by cases r' <;> exact hr), fun k hr => hkeep.bl k hr⟩
    have hyrep : ∀ u, Rep w g ⟨r, c, []⟩ t u → Rep (w.setRow b cs') (g.ren (pathRen r c h q ts)) ⟨r, c, []⟩ (putCells t h q ts) u := by
      intro u hu
      rw [putCells_eq ts t _ h hy ⟨xs, row, rfl, hrow, hlen⟩, setCells_eq ts h xs row hrow hlen]
      refine Rep.put hu q hy ⟨Nat.le_refl _, fun b' hb hf => ⟨Gh.ren_fz hf, hnb b' (by rw [hf]; intro e; cases e)⟩, fun b' a' hb ha hn ho' => ⟨?_, hnb b' ?_⟩, fun a' ha hn => Gh.ren_hd fun hD => ?_⟩ ?_
      · rw [CA.go_mk] at hn
        simp only [Gh.ren, ho']
        rw [if_neg (by
          rintro ⟨e, _⟩
          rw [ha.1] at e
          exact hrne e), if_neg (fun hD => hn (hDu _ hD).1)]
      · rw [ho']
        intro e
        cases e
        rw [CA.go_mk] at hn
        exact hn (CA.under_refl _)
      · rw [CA.go_mk] at hn
        exact hn (hDu _ hD).1
      · intro u2 hu2
        rw [CA.go_mk] at hu2 ⊢
        obtain ⟨b1, off1, cap1, cs1, el1, vs1, hv1, hhd1, hh1, ho1, hsize1, hcap1, hlim1, hrw1, hcell1, hrec1⟩ := hu2.own_inv hne
        · rw [hv1]
          rw [hhd] at hhd1
          cases hhd1
          rw [hh] at hh1
          cases hh1
          have hlenx : (xs.set h.i (row.take h.c ++ ts ++ row.drop (h.c + ts.length))).length = xs.length := List.length_set
          have hsz' : cs'.size = cs.size := by
            rw [hcs]; simp; omega
          have hnl : (row.take h.c ++ ts ++ row.drop (h.c + ts.length)).length = h.sz := by simp; omega
          have idx : ∀ i c', c' < h.sz → (off + h.i * h.sz + h.c ≤ off + i * h.sz + c' ∧ off + i * h.sz + c' < off + h.i * h.sz + h.c + ts.length ↔ i = h.i ∧ h.c ≤ c' ∧ c' < h.c + ts.length) := by
            intro i c' hc'
            constructor
            · rintro ⟨q1, q2⟩
              have hlt2 : h.c + (ts.length - 1) < h.sz ∨ ts.length = 0 := by omega
              have d1 : (i * h.sz + c') / h.sz = i := div_row _ _ _ hc'
              have : i = h.i := by
                have hb1 : h.i * h.sz ≤ i * h.sz + c' := by omega
                have hb2 : i * h.sz + c' < (h.i + 1) * h.sz := by rw [Nat.add_mul]; omega
                have hpos : 0 < h.sz := by omega
                have e1 : h.i ≤ (i * h.sz + c') / h.sz := (Nat.le_div_iff_mul_le hpos).2 hb1
                have e2 : (i * h.sz + c') / h.sz < h.i + 1 := (Nat.div_lt_iff_lt_mul hpos).2 hb2
                omega
              subst this
              exact ⟨rfl, by omega, by omega⟩
            · rintro ⟨rfl, q1, q2⟩
              omega
          have other : ∀ (i : Nat) (rr : List T) (c' : Nat) (x : T), xs[i]? = some rr → rr[c']? = some x → ¬ (i = h.i ∧ h.c ≤ c' ∧ c' < h.c + ts.length) → Rep (w.setRow b cs') (g.ren (pathRen r c h q ts)) ((⟨r, c, q⟩ : CA).hop ⟨i, h.sz, c'⟩) x (vs1 i c') := by
            intro i rr c' x h1 h2 hno
            have notD : ∀ a', a'.under ((⟨r, c, q⟩ : CA).hop ⟨i, h.sz, c'⟩) → ¬ (pathRen r c h q ts).D a' := by
              rintro a' ha ⟨e1, e2, s, j, x', e3, e4, e5⟩
              have hu : a'.under ((⟨r, c, q⟩ : CA).hop { h with c := h.c + j }) := ⟨e1, e2, s, e3⟩
              have := CA.hop_apart ha hu
              have q1 := congrArg Hop.i this
              have q2 := congrArg Hop.c this
              simp only at q1 q2
              have := lt_of_getElem? e4
              exact hno ⟨q1.symm, by omega, by omega⟩
            refine (hrec1 i rr c' x h1 h2).frame (Nat.le_refl _) (fun b' hb hf => ⟨Gh.ren_fz hf, hnb b' (by rw [hf]; intro e; cases e)⟩) (fun b' a' hb ha ho' => ⟨?_, hnb b' ?_⟩) (fun a' ha => Gh.ren_hd (notD a' ha))
            · simp only [Gh.ren, ho']
              rw [if_neg (by
                rintro ⟨e, _⟩
                exact hrne (ha.1.symm.trans e)), if_neg (notD a' ha)]
            · rw [ho']
              intro e
              cases e
              exact CA.not_under_hop _ _ ha
          have key := Rep.own (w := w.setRow b cs') (g := g.ren (pathRen r c h q ts)) (a := ⟨r, c, q⟩) (b := b) (off := off) (cap := cap) (sz := h.sz) (xs := xs.set h.i (row.take h.c ++ ts ++ row.drop (h.c + ts.length))) (cs := cs') (el := el)
            (fun i c' => if i = h.i ∧ h.c ≤ c' ∧ c' < h.c + ts.length then vs (c' - h.c) else vs1 i c')
            (by rw [Gh.ren_hd (fun hD => (hDu _ hD).2.1 rfl), hhd, hlenx]) (setRow_heap w _ _ _ _ _ hh) (by
              simp only [Gh.ren, ho]
              rw [if_neg (fun hs => hrne hs.1), if_neg (fun hD => (hDu _ hD).2.1 rfl)]) (by rw [hsz']; exact hsize) (by rw [hlenx]; exact hcap) (by rw [hlenx]; exact hlim)
            (fun rr hr => by
              rcases List.mem_or_eq_of_mem_set hr with k | k
              · exact hrw rr k
              · rw [k]; exact hnl)
            (fun i c' h1 h2 => by
              rw [hlenx] at h1
              rw [hget]
              by_cases k : i = h.i ∧ h.c ≤ c' ∧ c' < h.c + ts.length
              · rw [if_pos ((idx i c' h2).2 k), if_pos k]
                obtain ⟨rfl, k1, k2⟩ := k
                congr 2
                omega
              · rw [if_neg (fun e => k ((idx i c' h2).1 e)), if_neg k]
                exact hcell1 i c' h1 h2)
            (fun i rr c' x h1 h2 => by
              by_cases ki : i = h.i
              · subst ki
                rw [List.getElem?_set_self hi] at h1
                cases h1
                by_cases k : h.c ≤ c' ∧ c' < h.c + ts.length
                · rw [if_pos ⟨rfl, k⟩]
                  rw [List.append_assoc, List.getElem?_append_right (by simp; omega), List.getElem?_append_left (by simp; omega)] at h2
                  have hmin : (row.take h.c).length = h.c := by simp; omega
                  rw [hmin] at h2
                  have hr := hts (c' - h.c) x h2
                  by_cases hown : x.isOwn = true
                  · have := hr.ren2 (w' := w.setRow b cs') (R := pathRen r c h q ts) (fun b' _ hf => hnb b' (by rw [hf]; intro e; cases e)) (fun b' a' _ ha hf => hnb b' (by
                      rw [hf]
                      intro e
                      cases e
                      exact hrne ha.1)) ⟨rfl, x, h2, hown⟩
                    simp only [pathRen, List.nil_append] at this
                    rw [show h.c + (c' - h.c) = c' by omega] at this
                    exact this
                  · refine .fro ((hr.isFro fun sz' xs' e => ?_).frame (Nat.le_refl _) fun b' hb hf => ⟨Gh.ren_fz hf, hnb b' (by rw [hf]; intro e; cases e)⟩)
                    subst e
                    exact hown rfl
                · rw [if_neg (fun e => k e.2)]
                  have h2' : row[c']? = some x := by
                    rw [List.append_assoc] at h2
                    have hmin : (row.take h.c).length = h.c := by simp; omega
                    by_cases k1 : c' < h.c
                    · rw [List.getElem?_append_left (by omega), List.getElem?_take, if_pos k1] at h2
                      exact h2
                    · rw [List.getElem?_append_right (by omega), hmin, List.getElem?_append_right (by omega), List.getElem?_drop] at h2
                      rw [← h2]
                      congr 1
                      omega
                  exact other h.i row c' x hrow h2' (fun e => k e.2)
              · rw [List.getElem?_set_ne (fun e => ki e.symm)] at h1
                rw [if_neg (fun e => ki e.1)]
                exact other i rr c' x h1 h2 (fun e => ki e.1))
          rw [hlenx] at key
          exact key
    refine ⟨(hc.dirtier d' hd1).setPlace (w' := w.setRow b cs') (g' := g.ren (pathRen r c h q ts)) ⟨?_, hp.slot, hp.obj, hp.nret⟩ hkeep' (fun r' c' hr hne' => ?_) (fun b' k hb hbx => ⟨Gh.ren_box hbx, hnb b' (by rw [hbx]; intro e; cases e)⟩) (fun b' hb => ⟨by rw [(hc.glob b' hb).1, Gh.ren_other (hc.glob b' hb).1], hnb b' (by rw [(hc.glob b' hb).1]; intro e; cases e)⟩) (by simp) hyrep, ?_⟩
    · exact hex' r hp.ex
    · have hr' : σ.ex r' := by cases r' <;> exact hr
      refine ⟨fun b' p hb ho' => ⟨?_, hnb b' ?_⟩, fun p => Gh.ren_hd fun hD => hne' ⟨(hDu _ hD).1.1, (hDu _ hD).1.2.1⟩⟩
      · simp only [Gh.ren, ho']
        rw [if_neg (hS r' c' p hr'), if_neg (fun hD => hne' ⟨(hDu _ hD).1.1, (hDu _ hD).1.2.1⟩)]
      · rw [ho']
        intro e
        cases e
        exact hne' ⟨rfl, rfl⟩
    · refine ⟨by simp, rfl, fun b' hb hf => ⟨?_, hnb b' (by rcases hf with hf | hf <;> rw [hf] <;> intro e <;> cases e)⟩, fun _ _ => rfl, fun b' k hb _ hbx => ⟨Gh.ren_box hbx, fun cs2 el2 fr2 hh2 => ⟨cs2, (hnb b' (by rw [hbx]; intro e; cases e)).trans hh2, rfl, fun _ _ => rfl⟩⟩, rfl, rfl, rfl⟩
      rcases hf with hf | hf
      · rw [hf, Gh.ren_fz hf]
      · rw [hf, Gh.ren_other hf]
end
end Vx

namespace Vx
open Go Classical
set_option linter.unusedSimpArgs false
set_option linter.unusedVariables false

section
variable {E : Env} {N : Nat} {o : Oper} {σ : Sg}

theorem dirt_set {τ : Sg} {r : Root} {c : Nat} {t T' : T} (hp : PlaceIs τ r c t) : (τ.upd (.set r c T')).upds (dirtP r c) = { τ with dirty := fun r' j => if r' = r ∧ j = c then true else τ.dirty r' j }.upd (.set r c T') := by
  cases r with
  | slot n =>
    have := (hp.slot n (.inl rfl)).1
    have e : (τ.setP (.slot n) c (.t T')).rt n = .slot n := by rw [Sg.setP_rt, ← this]
    simp only [dirtP, Sg.upds, List.foldl_cons, List.foldl_nil, Sg.upd, e]
    simp [Sg.setP]
  | new n =>
    have := (hp.slot n (.inr rfl)).1
    have e : (τ.setP (.new n) c (.t T')).rt n = .new n := by rw [Sg.setP_rt, ← this]
    simp only [dirtP, Sg.upds, List.foldl_cons, List.foldl_nil, Sg.upd, e]
    simp [Sg.setP]
  | obj k => rfl
  | ret => exact absurd rfl hp.nret

theorem ok_store_path (hN : okOper N o = true) {t : TypeId} {p v : Operand} (ho : o.op = .store t p v) {i : TI} (hi : tinfo E.P t = some i) {r : Root} {c : Nat} {h : Hop} {q : List Hop} {us : List Upd}
    (hp : ∀ (a : Act) w g, Core E σ a.tmps w g → LIM ≤ g.lim → CRep w g σ.dirty ⟨.ret, 0, []⟩ (.ptr ⟨r, c, h :: q⟩) (a.eval p)) {A : Rd Eff}
    (hA : A = takeS v fun ts us => place r c fun t => match atCells t h q ts.length with
        | some _ => Vx.put o undefS (us ++ [.set r c (putCells t h q ts)] ++ (if ts.any T.isOwn then dirtP r c else [])) (ts.length = i.size ∧ 0 < i.size ∧ ts.all T.one = true)
        | none => fail) (hok : (A.run σ).ok) (hus : us = (A.run σ).upd) : OpOK E N o σ us := by
  have hopd : okOpd v = true := okOper_opd hN (by rw [ho]; simp [Op.operands])
  subst hus hA
  unfold takeS at hok ⊢
  obtain ⟨row0, e1, hrow0⟩ := rdRow_ok hok
  rw [e1] at hok ⊢
  obtain ⟨ts, us, ht, e2⟩ := takeL_ok hok
  rw [e2] at hok ⊢
  obtain ⟨tt, e3, hpl⟩ := place_is hok
  rw [e3] at hok ⊢
  cases hat : atCells tt h q ts.length with
  | none => rw [hat] at hok; exact hok.elim
  | some old =>
    rw [hat] at hok
    simp only at hok ⊢
    obtain ⟨⟨hs1, hs2, hs3⟩, _, _⟩ := put_ok hok
    have hkeys := keys_left hok
    have hk1 : distinct (keysOf (us ++ [.set r c (putCells tt h q ts)])) = true := distinct_left hkeys
    have hk2 : distinct (keysOf us) = true := distinct_left hk1
    have hk3 : Key.place r c ∉ keysOf us := by
      rw [distinct_iff, keysOf_append] at hk1
      intro hm
      exact (List.nodup_append.1 hk1).2.2 _ hm _ (by simp [keysOf, Upd.key]) rfl
    obtain ⟨hol, hoa⟩ := atCells_spec hat
    have hpos : 0 < ts.length := by omega
    obtain ⟨xs, row, hy, hrow, hlen⟩ : ∃ xs row, tt.at q = some (.sl true h.sz xs) ∧ xs[h.i]? = some row ∧ h.c + ts.length ≤ row.length := by
      have hlast : ts.length - 1 < old.length := by omega
      have h0 := hoa (ts.length - 1) _ (List.getElem?_eq_getElem hlast)
      simp only [T.at] at h0
      cases hq : tt.at q with
      | none => rw [hq] at h0; cases h0
      | some y =>
        rw [hq] at h0
        simp only [Option.bind_some] at h0
        obtain ⟨xs, row, rfl, q1, q2⟩ := sub_some h0
        have := lt_of_getElem? q2
        exact ⟨xs, row, rfl, q1, by simp only at this; omega⟩
    refine OpOK.skip hN hok fun a w g hc hs hl => ?_
    obtain ⟨vs, hcells, hval⟩ := hrow0 E a w g hc hl hopd
    obtain ⟨g1, tk, hr⟩ := ht.at_root hc hk2 (r := .ret) (fun h => h) hcells
    have hpl1 := ht.place σ (fun _ _ _ _ h => h) hk2 hpl hk3
    have hlen0 : row0.length = ts.length := by have := ht.length; simpa using this.symm
    have hts : ∀ j x, ts[j]? = some x → Rep w g1 ⟨.ret, j, []⟩ x (vs j) := by
      intro j x hj
      have := hr j (.t x) (by simp [hj])
      cases this with | t h => exact h
    obtain ⟨b, off, n, cap, cs, el, hhd, hh, hbound, hfin⟩ := tk.core.storePath hpl1 hy hrow hlen hts
    obtain ⟨b', off', n', cap', hhd', hpv⟩ := PRep.path_cons.1 ((hp a w g hc hl).ptr_val (.inr hpl.dirty))
    have heq := (tk.keeps.ref r c hpl.ex hpl.dirty).2 q
    rw [hhd, hhd'] at heq
    cases heq
    have hlv : (a.eval v).cells.toList = (List.range ts.length).map vs := by rw [hval, hlen0]
    have hlv2 : (a.eval v).cells.size = ts.length := by rw [hval, hlen0]; simp
    have hst := run_storeAt (P := E.P) hi (b := b) (off := off + h.i * h.sz + h.c) (v := a.eval v) hh (by rw [hlv2]; exact hs1) (by rw [hlv2]; exact hbound) (fun u hu => by
      have hu' : u ∈ (List.range ts.length).map vs := by rw [← hlv]; simpa using hu
      obtain ⟨j, hj, rfl⟩ := List.mem_map.1 hu'
      have hj' : j < ts.length := by simpa using hj
      simp only [List.all_eq_true] at hs3
      exact (hts j _ (List.getElem?_eq_getElem hj')).one (hs3 _ (List.getElem_mem hj')))
    rw [hlv] at hst
    simp only [List.length_map, List.length_range] at hst
    have hex : (execOp a.eval o).run E.P w = .ok .skip (w.setRow b (cs.toList.take (off + h.i * h.sz + h.c) ++ (List.range ts.length).map vs ++ cs.toList.drop (off + h.i * h.sz + h.c + ts.length)).toArray) := by
      simp only [execOp, ho, hpv]
      simp only [Sem.run_bind, hst]
      rfl
    cases hany : ts.any T.isOwn with
    | true =>
      obtain ⟨f1, f2⟩ := hfin (fun r' j => if r' = r ∧ j = c then true else (σ.upds us).dirty r' j) (fun r' j hd => by
        by_cases e : r' = r ∧ j = c
        · simp [e] at hd
        · simpa [e] using hd) (fun _ => by simp) _ rfl
      refine ⟨_, _, hex, ?_, tk.move.trans f2, ?_⟩
      · simp only [if_true]
        rw [upds_append, upds_append, upds_cons]
        show Core E (((σ.upds us).upd (.set r c (putCells tt h q ts))).upds (dirtP r c)) _ _ _
        rw [dirt_set hpl1]
        exact f1
      · simp only [if_true]
        rw [upds_append, upds_append, upds_cons]
        show (((σ.upds us).upd (.set r c (putCells tt h q ts))).upds (dirtP r c)).isnew = _
        rw [dirt_set hpl1]
        show (Sg.setP _ r c _).isnew = _
        rw [Sg.setP_isnew]
        exact tk.isnew
    | false =>
      obtain ⟨f1, f2⟩ := hfin (σ.upds us).dirty (fun r' j hd => hd) (fun e => by rw [hany] at e; cases e) _ rfl
      refine ⟨_, _, hex, ?_, tk.move.trans f2, ?_⟩
      · simp only [Bool.false_eq_true, if_false, List.append_nil]
        rw [upds_append]
        exact f1
      · simp only [Bool.false_eq_true, if_false, List.append_nil]
        rw [upds_append]
        show (Sg.setP _ r c _).isnew = _
        rw [Sg.setP_isnew]
        exact tk.isnew
end
end Vx

namespace Vx
open Go Classical
set_option linter.unusedSimpArgs false
set_option linter.unusedVariables false

section
variable {E : Env} {N : Nat} {o : Oper} {σ : Sg}
theorem ok_pick (hN : okOper N o = true) {c : Nat} {a b : Operand} {t : Bool} (ho : o.op = .pick (.tmp c) a b) (hs : σ.slot c = .c (.t (.bool t)))
    (h : ((rdS (if t then a else b) fun sv => Vx.put o sv [] (sv.row.isSome = true)).run σ).ok) : OpOK E N o σ ((rdS (if t then a else b) fun sv => Vx.put o sv [] (sv.row.isSome = true)).run σ).upd := by
  have hopd : okOpd (if t then a else b) = true := okOper_opd hN (by rw [ho]; cases t <;> simp [Op.operands])
  obtain ⟨sv, e1, hr, e2⟩ := rdS_ok h
  rw [e1] at h ⊢
  obtain ⟨hrow, _⟩ := put_ok h
  refine OpOK.pure hN h rfl (fun ac w g hc hl => ⟨ac.eval (if t then a else b), ?_, e2 E ac w g hc hl hopd, fun r hq => hr r hq _ _ _ _ hc⟩) (SV.flat_row hrow)
  have hv : ac.eval (.tmp c) = .bool t := slot_bool hc hs
  simp [execOp, ho, hv, asBool]
  cases t <;> rfl

theorem ok_store (hN : okOper N o = true) {t : TypeId} {p v : Operand} (ho : o.op = .store t p v) (h : ((astep E.P o).run σ).ok) : OpOK E N o σ ((astep E.P o).run σ).upd := by
  have hopd : okOpd p = true := okOper_opd hN (by rw [ho]; simp [Op.operands])
  simp only [astep, ho] at h ⊢
  unfold stepStore at h ⊢
  cases hi : tinfo E.P t with
  | none => rw [hi] at h; exact h.elim
  | some i =>
    rw [hi] at h
    simp only at h ⊢
    obtain ⟨sv, e1, hr, e2⟩ := rdS_ok h
    rw [e1] at h ⊢
    rcases sv with ((tt | pp | ⟨r, c, _ | ⟨hp, q⟩⟩ | ⟨row, c⟩ | _ | _) | _ | _)
    case c.ptr.nil =>
      cases r with
      | obj k =>
        simp only [Rd.run] at h ⊢
        cases hk : σ.kind k with
        | none => rw [hk] at h; exact h.elim
        | some kd =>
          cases kd with
          | virt => rw [hk] at h; exact h.elim
          | box m =>
            rw [hk] at h
            simp only at h ⊢
            exact ok_store_box hN ho hi (k := k) (c := c) (m := m) (fun a w g hc hl => by
              have hx := e2 E a w g hc hl hopd .ret
              cases hx; rename_i hx
              exact hx.ptr_val (.inl rfl)) hk h rfl
      | _ => exact h.elim
    case c.ptr.cons =>
      refine ok_store_path hN ho hi (r := r) (c := c) (h := hp) (q := q) (fun a w g hc hl => ?_) (A := _) ?_ h rfl
      · have hx := e2 E a w g hc hl hopd .ret
        cases hx; rename_i hx
        exact hx
      · cases r <;> rfl
    all_goals exact h.elim
theorem astep_ok (hN : okOper N o = true) (h : ((astep E.P o).run σ).ok) : OpOK E N o σ ((astep E.P o).run σ).upd := by
  cases ho : o.op with
  | move x => exact ok_move hN ho h
  | assign x => exact ok_assign hN ho h
  | nilCheck x => exact ok_nilCheck hN ho h
  | binOp op xt x y yt => exact ok_binOp hN ho h
  | unOp op xt x =>
    cases op with
    | not => exact ok_not hN ho h
    | neg => exact ok_neg hN ho h
    | _ => unfold astep at h; rw [ho] at h; exact h.elim
  | fieldAddr s x f => exact ok_fieldAddr hN ho h
  | indexAddr t x i => exact ok_indexAddr hN ho h
  | load t p => exact ok_load hN ho h
  | store t p v => exact ok_store hN ho h
  | alloc t => exact ok_alloc hN ho h
  | box t x => exact ok_box hN ho h
  | build t parts => exact ok_build hN ho h
  | makeSlice t l c => exact ok_makeSlice hN ho h
  | extract x i => exact ok_extract hN ho h
  | call c =>
    obtain ⟨callee, args, ats⟩ := c
    cases callee with
    | builtin b =>
      cases b with
      | len => exact ok_len hN ho h
      | _ => unfold astep at h; rw [ho] at h; exact h.elim
    | _ => unfold astep at h; rw [ho] at h; exact h.elim
  | _ => unfold astep at h; rw [ho] at h; exact h.elim
theorem step1_ok (E : Env) (N : Nat) : Step1OK E N (Returns E) := by
  intro o an σ hN h
  unfold ostep1 at h ⊢
  split at h
  · rename_i c a b ho
    simp only [Rd.run] at h ⊢
    split at h
    · rename_i t hs
      exact ok_pick hN ho hs h
    · exact h.elim
  · rename_i g args ats ho
    exact call_ok hN ho h
  · rename_i g args ats ho
    exact callv_ok hN ho h
  · exact astep_ok hN h
end
end Vx

namespace Vx
open Go

/-! ## Rules for the walk: what comes after an operation is hidden behind a variable -/
section
variable {P : Program} {R : Rel} {keep : List Nat} {Q : AX → St → Prop} {s : St}
theorem region_rule {id : Nat} {ops : List Oper} {draw : Bool} (h : aops P R ops ops s [] (fun s l => (draw = true → indep ops l = true) ∧ Q .normal (s.fix keep))) : awp P R keep (.region id ops.toArray draw) Q s := by
  simpa [awp] using h
theorem seq_rule {a b : Code} (h : awp P R keep a (fun e s => match e with | .normal => awp P R keep b Q s | e => Q e s) s) : awp P R keep (.seq a b) Q s := h
theorem skip_rule (h : Q .normal s) : awp P R keep .skip Q s := h
theorem ret_rule (h : Q .ret s) : awp P R keep .ret Q s := h
theorem exit_rule {id : Nat} (h : Q (.exit id) s) : awp P R keep (.exit id) Q s := h
theorem block_rule {id : Nat} {c : Code} (h : awp P R keep c (fun e s => match e with | .exit j => if j = id then Q .normal s else Q (.exit j) s | e => Q e s) s) : awp P R keep (.block id c) Q s := h
theorem loop_rule {c : Code} (h : aloop (awp P R keep c) Q s) : awp P R keep (.loop c) Q s := h
theorem cond_rule {c : Nat} {a b : Code} {t : Bool} (hs : s.slot c = .c (.t (.bool t))) (ha : t = true → awp P R keep a Q s) (hb : t = false → awp P R keep b Q s) : awp P R keep (.cond (.tmp c) a b) Q s := by
  simp only [awp, hs]
  exact ⟨ha, hb⟩
theorem nil_rule {ops : List Oper} {l : List (List Loc × List Loc)} {K : Kont} (h : K s l) : aops P R ops [] s l K := h
theorem op_rule {ops : List Oper} {o : Oper} {r : List Oper} {l : List (List Loc × List Loc)} {K0 : Kont} (h : ∀ K : Kont, (∀ s l, aops P R ops r s l K0 → K s l) → aop P R ops o s l K) : aops P R ops (o :: r) s l K0 := h _ fun _ _ h => h
theorem call_rule {o : Oper} {g : Nat} {args : List Operand} {fa : List SV} {res : SV} {lg : List Loc} {K' : Eff → List Loc → Prop} (hc : R g fa [] res []) (h : R g fa [] res [] → Rd.go s (stepCall R o g args ⟨[], res, []⟩) lg K') : ∃ an, Rd.go s (stepCall R o g args an) lg K' := ⟨_, h hc⟩
theorem awp_fix {c : Code} {s' : St} {keep' : List Nat} (hs : s.fix keep' = s') (h : awp P R keep c Q s') : awp P R keep c Q (s.fix keep') := hs ▸ h
theorem fnPost_fix {ts : List ResultVar} {res : SV} {out : List AR} {s' : St} {keep' : List Nat} (hs : s.fix keep' = s') (h : fnPost P ts res out s') : fnPost P ts res out (s.fix keep') := hs ▸ h
theorem fix_rule {Q' : St → Prop} {s' : St} (hs : s = s') (h : Q' s') : Q' s := hs ▸ h
end
end Vx

