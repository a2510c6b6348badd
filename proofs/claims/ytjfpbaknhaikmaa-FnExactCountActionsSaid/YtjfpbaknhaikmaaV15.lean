import Derived.Test.YtjfpbaknhaikmaaV14
namespace Vx
open Go Classical
set_option linter.unusedSimpArgs false
set_option linter.unusedVariables false

def SV.clean1 : SV → Bool
  | .c x => !x.isOwn
  | .agg row => row.all fun x => !x.isOwn
  | .tup _ => false
theorem SVRep.move0 {w : World} {g : Gh} {d : Dirt} {r r' : Root} {n : Nat} {sv : SV} {v : Value} (h : SVRep w g d r n sv v) (hn : sv.clean1 = true) : SVRep w g d r' 0 sv v := by
  cases h with
  | c h => exact .c (h.repos (by simpa [SV.clean1] using hn))
  | agg vs h => exact .agg vs fun j x hj => (h j x hj).repos (by
      simp only [SV.clean1, List.all_eq_true] at hn
      simpa using hn x (List.mem_of_getElem? hj))
  | tup vs h => simp [SV.clean1] at hn
theorem SV.alias1_clean {sv : SV} (h : ∀ l, sv ≠ .tup l) (r : Root) (n : Nat) : (sv.alias1 r n).clean1 = true := by
  cases sv with
  | c x => simp [SV.alias1, SV.clean1, C.alias_isOwn]
  | agg row =>
    simp only [SV.alias1, SV.clean1, List.all_eq_true]
    intro y hy
    obtain ⟨j, hj⟩ := List.getElem?_of_mem hy
    obtain ⟨z, _, e⟩ := aliasFrom_get hj
    rw [e]; simp [C.alias_isOwn]
  | tup l => exact absurd rfl (h l)

theorem rdS_ok2 {σ : Sg} {x : Operand} {f : SV → Rd Eff} (h : ((rdS x f).run σ).ok) : ∃ sv, (rdS x f).run σ = (f sv).run σ ∧ (∀ r ∈ sv.roots, ∀ E tmps w g, Core E σ tmps w g → σ.ex r) ∧
    (∀ E a w g, Core E σ (Act.tmps a) w g → LIM ≤ g.lim → okOpd x = true → ∀ r, SVRep w g σ.dirty r 0 sv (a.eval x)) ∧ (∀ row, sv.row = some row → ∀ y ∈ row, y.isOwn = false) ∧ ∀ E tmps w g, Core E σ tmps w g → ∀ l, sv = .tup l → ∀ x ∈ l, x.clean1 = true := by
  cases x with
  | tmp n =>
    refine ⟨(σ.slot n).alias (σ.rt n), rfl, fun r hr E tmps w g hc => ?_, fun E a w g hc _ _ r => (hc.slots n).alias (hc.flat n) r, fun row hrow y hy => ?_, fun E tmps w g hc l hl x hx => ?_⟩
    · rcases SV.alias_roots _ _ r hr with h | h
      · rw [h]; exact σ.rt_ex n
      · exact hc.liveS n r h
    · cases hs : σ.slot n with
      | c x => rw [hs] at hrow; cases hrow; simp at hy; subst hy; exact C.alias_isOwn _ _
      | agg l =>
        rw [hs] at hrow; cases hrow
        obtain ⟨j, hj⟩ := List.getElem?_of_mem hy
        obtain ⟨z, _, e⟩ := aliasFrom_get hj
        rw [e]; exact C.alias_isOwn _ _
      | tup l => rw [hs] at hrow; cases hrow
    · have hf := hc.flat n
      cases hs : σ.slot n with
      | tup l0 =>
        rw [hs] at hl hf
        cases hl
        obtain ⟨j, hj⟩ := List.getElem?_of_mem hx
        obtain ⟨y, h1, e⟩ := aliasTup_get hj
        rw [e]
        refine SV.alias1_clean (fun l' e' => ?_) _ _
        simp only [SV.flat, List.all_eq_true] at hf
        have := hf y (List.mem_of_getElem? h1)
        rw [e'] at this
        simp at this
      | c x => rw [hs] at hl; cases hl
      | agg row => rw [hs] at hl; cases hl
  | const v =>
    refine ⟨SV.ofV v, rfl, fun r hr => by rw [ofV_roots] at hr; simp at hr, fun E a w g _ hl ho r => SVRep.ofV hl ho, fun row hrow y hy => ?_, fun _ _ _ _ _ l hl => by unfold SV.ofV at hl; split at hl <;> cases hl⟩
    unfold SV.ofV at hrow
    split at hrow
    · cases hrow
      obtain ⟨v, _, rfl⟩ := List.mem_map.1 hy
      exact T.ofV_notOwn v
    · cases hrow
      simp at hy; subst hy
      exact T.ofV_notOwn v
  | func f' =>
    refine ⟨_, rfl, fun r hr => by simp [SV.roots, C.roots, C.rootsL] at hr, fun E a w g _ _ _ r => .c ?_, fun row hrow y hy => by cases hrow; simp at hy; subst hy; rfl, fun _ _ _ _ _ l hl => by cases hl⟩
    have := CRep.clo (w := w) (g := g) (d := σ.dirty) (a := ⟨r, 0, []⟩) (f := f') (caps := []) (fun _ => undef) (by simp) (fun j x hj => by simp at hj)
    simpa [Act.eval] using this
  | global g => exact h.elim

def CellsOK (σ : Sg) (w : World) (g : Gh) (l : List C) (vs : Nat → Value) : Prop :=
  ∀ j x, l[j]? = some x → (∃ a, CRep w g σ.dirty a x (vs j)) ∧ x.isOwn = false ∧ ∀ r ∈ x.roots, σ.ex r
theorem cell_apart (r : Root) {i j : Nat} (h : i ≠ j) (p q : List Hop) : (⟨r, i, p⟩ : CA).apart ⟨r, j, q⟩ := ⟨fun e => h e.2.1, fun e => h e.2.1.symm⟩
theorem upds_append (σ : Sg) (us vs : List Upd) : σ.upds (us ++ vs) = (σ.upds us).upds vs := by simp [Sg.upds]

section
variable {E : Env} {N : Nat} {o : Oper} {σ : Sg}

theorem TkL.at_root {tmps : Array Value} {w : World} {g : Gh} {l l' : List C} {us : List Upd} (ht : TkL σ l l' us) (hc : Core E σ tmps w g) (hd : distinct (keysOf us) = true) {r : Root} (hr : ¬ σ.ex r) {vs : Nat → Value} (hl : CellsOK σ w g l vs) :
    ∃ g', Took E tmps w σ (σ.upds us) g g' (fun j => ⟨r, j, []⟩) l.length ∧ ∀ j x, l'[j]? = some x → CRep w g' σ.dirty ⟨r, j, []⟩ x (vs j) :=
  ht.core σ g hc rfl rfl (fun _ _ _ _ h => h) hd (fun j => ⟨r, j, []⟩) vs (fun _ => hr) (fun i j h _ => cell_apart r (by omega) _ _) hl

theorem dst_lt (hN : okOper N o = true) {d : Nat} (hd : o.dst = some d) : d < N := by
  unfold okOper at hN
  rw [hd] at hN
  simp at hN
  exact hN.1

/-- An operation whose result is made of what its operands hold or had. -/
theorem OpOK.took (hN : okOper N o = true) {x : SV} {us ups : List Upd} {ok : Prop} {l l' : List C} (hok : ((Vx.put o x us ok).run σ).ok) (ht : TkL σ l l' us) (hups : ups = ((Vx.put o x us ok).run σ).upd)
    (hfl : x.flat = true) (hx : ∀ r ∈ x.roots, ∃ y ∈ l', r ∈ y.roots)
    (h : ∀ (a : Act) w g, Core E σ a.tmps w g → LIM ≤ g.lim → ∃ v vs, (execOp a.eval o).run E.P w = .ok (.value v) w ∧ CellsOK σ w g l vs ∧
      ∀ g' r, (∀ j y, l'[j]? = some y → CRep w g' σ.dirty ⟨r, j, []⟩ y (vs j)) → SVRep w g' σ.dirty r 0 x v) : OpOK E N o σ ups := by
  intro a w g hc hs hl K Q hK
  obtain ⟨v, vs, he, hcells, hsv⟩ := h a w g hc hl
  unfold Oper.wp
  rw [he, Oper.upon_value]
  obtain ⟨h1, h2, h3⟩ := put_ok hok
  cases hd : o.dst with
  | none =>
    obtain ⟨e, hdi⟩ := h3 hd
    obtain ⟨g', tk, _⟩ := ht.at_root hc hdi (r := .ret) (fun h => h) hcells
    refine hK _ w g' ?_ tk.move hs rfl
    rw [hups, e]
    exact tk.core
  | some d =>
    obtain ⟨hn, e, hdi⟩ := h2 d hd
    obtain ⟨g', tk, hr⟩ := ht.at_root hc (distinct_left hdi) (r := .new d) (fun h => by simp [Sg.ex, hn] at h) hcells
    refine hK _ w g' ?_ tk.move (by simpa [Act.put] using hs) rfl
    rw [hups, e, upds_append]
    refine tk.core.put (by rw [tk.isnew]; exact hn) ?_ (fun r hr => ?_) hfl (.inl (by rw [hs]; exact dst_lt hN hd))
    · rw [tk.dirty]; exact hsv g' _ hr
    · rw [tk.ex]
      obtain ⟨y, hy1, hy2⟩ := hx r hr
      obtain ⟨z, hz1, hz2⟩ := ht.roots y hy1 r hy2
      obtain ⟨j, hj⟩ := List.getElem?_of_mem hz1
      exact (hcells j z hj).2.2 r hz2

theorem ok_assign (hN : okOper N o = true) {x : Operand} (ho : o.op = .assign x) (h : ((astep E.P o).run σ).ok) : OpOK E N o σ ((astep E.P o).run σ).upd := by
  have hopd : okOpd x = true := okOper_opd hN (by rw [ho]; simp [Op.operands])
  simp only [astep, ho] at h ⊢
  obtain ⟨sv, e1, hr, e2, e3, _⟩ := rdS_ok2 h
  rw [e1] at h ⊢
  cases sv with
  | c x0 =>
    simp only at h ⊢
    obtain ⟨l', us, ht, e⟩ := moveL_ok h
    rw [e] at h ⊢
    rcases l' with _ | ⟨y, _ | ⟨z, l'⟩⟩
    · exact h.elim
    · simp only at h ⊢
      refine OpOK.took hN h ht rfl rfl (fun r hr => ⟨y, by simp, hr⟩) fun a w g hc hl => ⟨a.eval x, fun _ => a.eval x, by simp [execOp, ho], fun j u hj => ?_, fun g' r hc' => .c (hc' 0 y rfl)⟩
      cases j with
      | zero =>
        simp at hj
        subst hj
        have hx := e2 E a w g hc hl hopd .ret
        cases hx with | c hx => exact ⟨⟨_, hx⟩, e3 _ rfl _ (by simp), fun r hq => hr r hq _ _ _ _ hc⟩
      | succ j => simp at hj
    · exact h.elim
  | agg row =>
    simp only at h ⊢
    obtain ⟨l', us, ht, e⟩ := moveL_ok h
    rw [e] at h ⊢
    refine OpOK.took hN h ht rfl rfl (fun r hr => by simp only [SV.roots] at hr; exact C.mem_rootsL.1 hr) fun a w g hc hl => ?_
    have hx := e2 E a w g hc hl hopd .ret
    revert hx
    generalize hv : a.eval x = v
    intro hx
    cases hx with
    | agg vs hx =>
      refine ⟨.agg ((List.range row.length).map vs).toArray, vs, by simp [execOp, ho, hv], fun j u hj => ⟨⟨_, hx j u hj⟩, e3 _ rfl _ (List.mem_of_getElem? hj), fun r hq => hr r (by simp only [SV.roots]; exact C.mem_rootsL.2 ⟨u, List.mem_of_getElem? hj, hq⟩) _ _ _ _ hc⟩, fun g' r hc' => ?_⟩
      rw [← ht.length]
      exact .agg vs fun j u hj => by rw [Nat.zero_add]; exact hc' j u hj
  | tup l => exact h.elim

theorem ok_extract (hN : okOper N o = true) {x : Operand} {i : Nat} (ho : o.op = .extract x i) (h : ((astep E.P o).run σ).ok) : OpOK E N o σ ((astep E.P o).run σ).upd := by
  have hopd : okOpd x = true := okOper_opd hN (by rw [ho]; simp [Op.operands])
  simp only [astep, ho] at h ⊢
  obtain ⟨sv, e1, hr, e2, _, e4⟩ := rdS_ok2 h
  rw [e1] at h ⊢
  cases sv with
  | tup l =>
    simp only at h ⊢
    cases hi : l[i]? with
    | none => rw [hi] at h; exact h.elim
    | some y =>
      rw [hi] at h
      simp only at h ⊢
      obtain ⟨hrow, _⟩ := put_ok h
      refine OpOK.pure hN h rfl (fun a w g hc hl => ?_) (SV.flat_row hrow)
      have hlt := lt_of_getElem? hi
      obtain ⟨vs, hvs⟩ : ∃ vs : Nat → Value, a.eval x = .tuple ((List.range l.length).map vs).toArray := by
        have hx := e2 E a w g hc hl hopd .ret
        revert hx
        generalize a.eval x = v
        intro hx
        cases hx with | tup vs _ => exact ⟨vs, rfl⟩
      refine ⟨vs i, ?_, fun r => ?_, fun r hq => hr r (by simp only [SV.roots]; exact SV.mem_rootsL.2 ⟨y, List.mem_of_getElem? hi, hq⟩) _ _ _ _ hc⟩
      · simp [execOp, ho, hvs, Instr.extract, hlt]
      · have hcl := e4 _ _ _ _ hc l rfl y (List.mem_of_getElem? hi)
        have hx := e2 E a w g hc hl hopd r
        rw [hvs] at hx
        generalize hgen : ((List.range l.length).map vs).toArray = arr at hx
        cases hx with
        | tup us hx =>
          have := hx i y hi
          have he : us i = vs i := by
            have := congrArg (fun z => z[i]?) hgen
            simp [hlt] at this
            exact this.symm
          rw [he] at this
          exact this.move0 hcl
  | _ => exact h.elim
end
end Vx
