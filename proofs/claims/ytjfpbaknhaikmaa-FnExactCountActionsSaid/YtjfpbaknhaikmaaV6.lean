import Derived.Test.YtjfpbaknhaikmaaV5b
import Derived.Laws.Sem
import Derived.Laws.Cells
import Derived.Laws.CopyRow
import Derived.Laws.Strings
namespace Vx
open Go Classical

/-! ## What is asked of the code's text -/
def smallV : Value → Bool
  | .agg cs => cs.all smallC
  | v => smallC v
def okOpd : Operand → Bool
  | .const v => smallV v
  | _ => true
def okOper (N : Nat) (o : Oper) : Bool := (match o.dst with | some d => decide (d < N) | none => true) && o.op.operands.all okOpd

/-- The operation `o`, from the state `σ` on, is sound for the updates `us`. -/
def OpOK (E : Env) (N : Nat) (o : Oper) (σ : Sg) (us : List Upd) : Prop :=
  ∀ (a : Act) (w : World) (g : Gh), Core E σ a.tmps w g → a.tmps.size = N → LIM ≤ g.lim → ∀ (K : Act → World → Prop) (Q : Exit → Act → World → Prop),
    (∀ a' w' g', Core E (σ.upds us) a'.tmps w' g' → Move w g w' g' → a'.tmps.size = N → a'.defers = a.defers → K a' w') → o.wp E.P a w K Q

/-! ## Operands -/
theorem Rep.ofV {w : World} {g : Gh} {a : CA} (hl : LIM ≤ g.lim) {v : Value} (hv : smallC v = true) : Rep w g a (T.ofV v) v := .fro <| by
  cases v with
  | int k n => exact .int
  | bool b => exact .bool
  | string s => exact .str (by simp [smallC] at hv; unfold LIM at hl; omega)
  | slice p n c =>
    unfold T.ofV
    split
    all_goals first
      | (rename_i h; cases h; exact .nil)
      | exact .val
      | simp_all
  | _ => exact .val
theorem SVRep.ofV {w : World} {g : Gh} {d : Dirt} {r : Root} (hl : LIM ≤ g.lim) {v : Value} (hv : smallV v = true) : SVRep w g d r 0 (SV.ofV v) v := by
  unfold SV.ofV
  split
  · rename_i cs
    have := SVRep.agg (w := w) (g := g) (d := d) (r := r) (n := 0) (row := cs.toList.map fun v => C.t (T.ofV v)) (fun j => cs.getD j undef) (fun j x hj => by
      simp only [List.getElem?_map, Option.map_eq_some_iff] at hj
      obtain ⟨v, h1, rfl⟩ := hj
      have h2 : cs[j]? = some v := by simpa using h1
      have : cs.getD j undef = v := by simp [Array.getD_eq_getD_getElem?, h2]
      rw [this]
      refine .t (Rep.ofV hl ?_)
      simp only [smallV, Array.all_eq_true] at hv
      obtain ⟨hlt, h3⟩ := Array.getElem?_eq_some_iff.1 h2
      have := hv j hlt
      rw [h3] at this
      exact this)
    have e : ((List.range (cs.toList.map fun v => C.t (T.ofV v)).length).map fun j => cs.getD j undef).toArray = cs := by
      apply Array.ext_getElem?
      intro i
      by_cases h : i < cs.size
      · simp [h, Array.getD_eq_getD_getElem?]
      · simp [h]
    rw [e] at this
    exact this
  · exact .c (.t (Rep.ofV hl (by unfold smallV at hv; split at hv <;> simp_all)))
theorem ofV_roots (v : Value) : (SV.ofV v).roots = [] := by
  unfold SV.ofV
  split
  · simp only [SV.roots]
    rename_i cs
    generalize cs.toList = l
    induction l <;> simp_all [C.rootsL, C.roots]
  · simp [SV.roots, C.roots]

theorem rdS_ok {σ : Sg} {x : Operand} {f : SV → Rd Eff} (h : ((rdS x f).run σ).ok) : ∃ sv, (rdS x f).run σ = (f sv).run σ ∧ (∀ r ∈ sv.roots, ∀ E tmps w g, Core E σ tmps w g → σ.ex r) ∧
    ∀ E a w g, Core E σ (Act.tmps a) w g → LIM ≤ g.lim → okOpd x = true → ∀ r, SVRep w g σ.dirty r 0 sv (a.eval x) := by
  cases x with
  | tmp n =>
    refine ⟨(σ.slot n).alias (σ.rt n), rfl, fun r hr E tmps w g hc => ?_, fun E a w g hc _ _ r => (hc.slots n).alias (hc.flat n) r⟩
    rcases SV.alias_roots _ _ r hr with h | h
    · rw [h]; exact σ.rt_ex n
    · exact hc.liveS n r h
  | const v => exact ⟨SV.ofV v, rfl, fun r hr => by rw [ofV_roots] at hr; simp at hr, fun E a w g _ hl ho r => SVRep.ofV hl ho⟩
  | func f' =>
    refine ⟨_, rfl, fun r hr => by simp [SV.roots, C.roots, C.rootsL] at hr, fun E a w g _ _ _ r => .c ?_⟩
    have := CRep.clo (w := w) (g := g) (d := σ.dirty) (a := ⟨r, 0, []⟩) (f := f') (caps := []) (fun _ => undef) (by simp) (fun j x hj => by simp at hj)
    simpa [Act.eval] using this
  | global g => exact h.elim
theorem rdT_ok {σ : Sg} {x : Operand} {f : T → Rd Eff} (h : ((rdT x f).run σ).ok) : ∃ t, (rdT x f).run σ = (f t).run σ ∧
    ∀ E a w g, Core E σ (Act.tmps a) w g → LIM ≤ g.lim → okOpd x = true → ∃ r, Rep w g ⟨r, 0, []⟩ t (a.eval x) := by
  unfold rdT at h ⊢
  obtain ⟨sv, e1, _, e2⟩ := rdS_ok h
  rw [e1] at h ⊢
  rcases sv with ((t | _ | _ | _ | _ | _) | _ | _)
  case c.t =>
    refine ⟨t, rfl, fun E a w g hc hl ho => ?_⟩
    have hr := e2 E a w g hc hl ho .ret
    cases hr with
    | c h => cases h with | t h => exact ⟨_, h⟩
  all_goals exact h.elim

theorem finish_ok {σ : Sg} {ok : Prop} {us : List Upd} (h : ((finish ok us).run σ).ok) : ok ∧ (finish ok us).run σ = ⟨ok, us⟩ ∧ distinct (keysOf us) = true := by
  unfold finish at *
  split
  · rename_i hd
    rw [if_pos hd] at h
    exact ⟨h, rfl, hd⟩
  · rename_i hd
    rw [if_neg hd] at h
    exact h.elim
theorem put_ok {σ : Sg} {o : Oper} {x : SV} {us : List Upd} {ok : Prop} (h : ((put o x us ok).run σ).ok) : ok ∧
    (∀ d, o.dst = some d → σ.isnew d = false ∧ (put o x us ok).run σ = ⟨ok, us ++ [.slot d x]⟩ ∧ distinct (keysOf (us ++ [.slot d x])) = true) ∧
    (o.dst = none → (put o x us ok).run σ = ⟨ok, us⟩ ∧ distinct (keysOf us) = true) := by
  unfold put at *
  cases hd : o.dst with
  | none =>
    rw [hd] at h
    obtain ⟨h1, h2, h3⟩ := finish_ok h
    exact ⟨h1, fun d (hd : none = some d) => (by cases hd), fun _ => ⟨h2, h3⟩⟩
  | some d =>
    rw [hd] at h
    simp only [Rd.run] at h ⊢
    cases hn : σ.isnew d with
    | true => rw [hn] at h; exact h.elim
    | false =>
      rw [hn] at h
      obtain ⟨h1, h2, h3⟩ := finish_ok h
      refine ⟨h1, fun d' (hd' : some d = some d') => ?_, fun (h : some d = none) => (by cases h)⟩
      cases hd'
      refine ⟨hn, ?_, h3⟩
      simpa [hn] using h2

/-- An operation that only computes. -/
theorem OpOK.pure {E : Env} {N : Nat} {o : Oper} {σ : Sg} {x : SV} {us : List Upd} {ok : Prop} (hN : okOper N o = true) (hok : ((Vx.put o x [] ok).run σ).ok)
    (hus : us = ((Vx.put o x [] ok).run σ).upd)
    (h : ∀ (a : Act) (w : World) (g : Gh), Core E σ a.tmps w g → LIM ≤ g.lim → ∃ v, (execOp a.eval o).run E.P w = .ok (.value v) w ∧
      (∀ r, SVRep w g σ.dirty r 0 x v) ∧ (∀ r ∈ x.roots, σ.ex r)) (hf : x.flat = true := by rfl) : OpOK E N o σ us := by
  intro a w g hc hs hl K Q hK
  obtain ⟨v, he, hx, hr⟩ := h a w g hc hl
  unfold Oper.wp
  rw [he, Oper.upon_value]
  obtain ⟨h1, h2, h3⟩ := put_ok hok
  cases hd : o.dst with
  | none =>
    obtain ⟨e, _⟩ := h3 hd
    refine hK _ w g ?_ (Move.refl _ _) hs rfl
    rw [hus, e]
    exact hc
  | some d =>
    obtain ⟨hn, e, _⟩ := h2 d hd
    refine hK _ w g ?_ (Move.refl _ _) (by simpa [Act.put] using hs) rfl
    rw [hus, e]
    have hdN : d < N := by
      unfold okOper at hN
      rw [hd] at hN
      simp at hN
      exact hN.1
    exact hc.put hn (hx _) hr hf (.inl (by rw [hs]; exact hdN))

theorem okOper_opd {N : Nat} {o : Oper} (h : okOper N o = true) {x : Operand} (hx : x ∈ o.op.operands) : okOpd x = true := by
  unfold okOper at h
  simp only [Bool.and_eq_true, Array.all_eq_true] at h
  obtain ⟨i, hi, e⟩ := Array.mem_iff_getElem.1 hx
  rw [← e]
  exact h.2 i hi

/-! ## Arithmetic, comparison -/
theorem toList_iff (a b : ByteArray) : a.toList = b.toList ↔ a = b := by
  rw [ByteArray.toList_eq, ByteArray.toList_eq]
  constructor
  · intro h
    cases a; cases b
    simp at h
    simp [h]
  · rintro rfl; rfl
theorem toList_beq (a b : ByteArray) : (a.toList == b.toList) = decide (a = b) := by
  by_cases e : a = b
  · simp [e]
  · have : ¬ a.toList = b.toList := fun q => e ((toList_iff a b).1 q)
    simp [e, this]

theorem isBoolT_un {P : Program} {t : TypeId} (h : isBoolT P t = true) : P.underlying t = some .bool := by
  unfold isBoolT tinfo at h
  split at h
  · rename_i e
    split at e
    · rename_i i d h1 h2
      cases d <;> first | exact h2 | (simp at e)
    · cases e
  · cases h
theorem isStrT_un {P : Program} {t : TypeId} (h : isStrT P t = true) : P.underlying t = some .string := by
  unfold isStrT tinfo at h
  split at h
  · rename_i e
    split at e
    · rename_i i d h1 h2
      cases d <;> first | exact h2 | (simp at e)
    · cases e
  · cases h
theorem isSlT_un {P : Program} {t : TypeId} (h : isSlT P t = true) : ∃ e, P.underlying t = some (.slice e) := by
  unfold isSlT tinfo at h
  split at h
  · rename_i e
    split at e
    · rename_i i d h1 h2
      cases d <;> first | exact ⟨_, h2⟩ | (simp at e)
    · cases e
  · cases h
theorem run_equal_bool {P : Program} {w : World} {xt : TypeId} (hu : P.underlying xt = some .bool) (a b : Bool) : (Op.equal xt (.bool a) (.bool b)).run P w = .ok (a == b) w := by
  show (Op.equalIn (9999 + 1) xt (.bool a) (.bool b)).run P w = _
  rw [Op.equalIn]
  have h1 : (underlying xt).run P w = .ok .bool w := by simp [underlying, hu]
  rw [Sem.run_bind, h1, Result.andThen_ok]
  rfl

theorem binT_ok {P : Program} {w : World} {g : Gh} {op : BinOp} {xt : TypeId} {x y : Operand} {a b c : T} {va vb : Value} {pa pb : CA} (h : binT P xt op a b = some c) (ha : Rep w g pa a va) (hb : Rep w g pb b vb) :
    ∃ v, (do eqGuard op xt x y va vb; binOp op xt va vb : Sem Value).run P w = .ok v w ∧ ∀ p, Rep w g p c v := by
  unfold binT at h
  split at h
  all_goals try split at h
  all_goals cases h
  all_goals
    (cases ha; rename_i ha; cases ha; cases hb; rename_i hb; cases hb)
  all_goals try (rename_i e; subst e)
  all_goals
    first
      | (refine ⟨_, ?_, fun p => .fro FRep.int⟩; simp [eqGuard, binOp, Op.intArith]; done)
      | (refine ⟨_, ?_, fun p => .fro FRep.bool⟩; simp [eqGuard, binOp, Op.intCmp, Op.stringOp, toList_beq]; done)
      | (refine ⟨_, ?_, fun p => .fro FRep.bool⟩; simp [eqGuard, binOp, Op.intCmp]; first | rfl | (simp [bne]; rfl); done)
      | skip
  all_goals
    rename_i hb
    have hu : P.underlying xt = some .bool := isBoolT_un hb
    refine ⟨_, ?_, fun p => .fro FRep.bool⟩
    have h1 := fun a b => run_equal_bool (w := w) hu a b
    simp [eqGuard, binOp, h1, bne]
end Vx
