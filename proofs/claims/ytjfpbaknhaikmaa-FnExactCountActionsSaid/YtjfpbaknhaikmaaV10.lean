import Derived.Test.YtjfpbaknhaikmaaV9
namespace Vx
open Go Classical
set_option linter.unusedSimpArgs false
set_option linter.unusedVariables false

theorem builtin_len' (ats : Array TypeId) (ty : TypeId) (cs : Array Bool) (args : Array Value) : builtin .len ats ty cs args = (do pure (.value (← Builtin.len_ ats ty args))) := rfl
theorem exec_builtin {ρ : Operand → Value} {o : Oper} {b : Builtin} {xs : Array Operand} {ts : Array TypeId} (ho : o.op = .call { callee := .builtin b, args := xs, argTypes := ts }) :
    ∃ cs, execOp ρ o = builtin b ts o.type cs (xs.map ρ) := ⟨xs.map fun | .const _ => true | _ => false, by simp only [execOp, ho, resolve, invoke]; rfl⟩

section
variable {E : Env} {N : Nat} {o : Oper} {σ : Sg}

theorem FRep.len {w : World} {g : Gh} {t : T} {v : Value} {n : Nat} {P : Program} {ty t' : TypeId} (h : FRep w g t v) (hl : (isStrT P t' || isSlT P t') = true) (hn : lenT (isStrT P t') t = some n) :
    (Builtin.len_ #[t'] ty #[v]).run P w = .ok (.int .i64 n) w := by
  cases hs : isStrT P t' with
  | true =>
    rw [hs] at hn
    have hu := isStrT_un hs
    have h1 : (underlying t').run P w = .ok .string w := by simp [underlying, hu]
    cases h <;> simp [lenT] at hn
    subst hn
    simp [Builtin.len_, h1, goInt]
  | false =>
    rw [hs] at hn hl
    obtain ⟨e, hu⟩ := isSlT_un (by simpa using hl)
    have h1 : (underlying t').run P w = .ok (.slice e) w := by simp [underlying, hu]
    cases h <;> simp [lenT] at hn <;> subst hn <;> simp [Builtin.len_, h1, goInt]
theorem Rep.len {w : World} {g : Gh} {a : CA} {t : T} {v : Value} {n : Nat} {P : Program} {ty t' : TypeId} (h : Rep w g a t v) (hl : (isStrT P t' || isSlT P t') = true) (hn : lenT (isStrT P t') t = some n) :
    (Builtin.len_ #[t'] ty #[v]).run P w = .ok (.int .i64 n) w := by
  cases h with
  | fro h => exact h.len hl hn
  | onil =>
    cases hs : isStrT P t' with
    | true => rw [hs] at hn; simp [lenT] at hn
    | false =>
      rw [hs] at hn hl
      obtain ⟨e, hu⟩ := isSlT_un (by simpa using hl)
      have h1 : (underlying t').run P w = .ok (.slice e) w := by simp [underlying, hu]
      simp [lenT] at hn; subst hn; simp [Builtin.len_, h1, goInt]
  | own =>
    cases hs : isStrT P t' with
    | true => rw [hs] at hn; simp [lenT] at hn
    | false =>
      rw [hs] at hn hl
      obtain ⟨e, hu⟩ := isSlT_un (by simpa using hl)
      have h1 : (underlying t').run P w = .ok (.slice e) w := by simp [underlying, hu]
      simp [lenT] at hn; subst hn; simp [Builtin.len_, h1, goInt]

theorem ok_len (hN : okOper N o = true) {xs : Array Operand} {ts : Array TypeId} (ho : o.op = .call { callee := .builtin .len, args := xs, argTypes := ts }) (h : ((astep E.P o).run σ).ok) : OpOK E N o σ ((astep E.P o).run σ).upd := by
  simp only [astep, ho] at h ⊢
  rcases hxs : xs.toList with _ | ⟨x, _ | ⟨y, l⟩⟩
  · rw [hxs] at h; exact h.elim
  · rw [hxs] at h
    rcases hts : ts.toList with _ | ⟨t, _ | ⟨u, l⟩⟩
    · rw [hts] at h; exact h.elim
    · rw [hts] at h
      have exs : xs = #[x] := by cases xs; simp at hxs; simp [hxs]
      have ets : ts = #[t] := by cases ts; simp at hts; simp [hts]
      subst exs ets
      simp only at h ⊢
      unfold stepLen at h ⊢
      cases hl : isStrT E.P t || isSlT E.P t with
      | false => rw [hl] at h; exact h.elim
      | true =>
        rw [hl] at h
        simp only [if_true] at h ⊢
        obtain ⟨sv, e1, hr, e2⟩ := rdS_ok h
        rw [e1] at h ⊢
        have hopd : okOpd x = true := okOper_opd hN (by rw [ho]; simp [Op.operands, Call.operands])
        have hex : ∀ (a : Act) w v n, a.eval x = v → (Builtin.len_ #[t] o.type #[v]).run E.P w = .ok (.int .i64 n) w → (execOp a.eval o).run E.P w = .ok (.value (.int .i64 n)) w := by
          intro a w v n hv hrun
          obtain ⟨cs, he⟩ := exec_builtin (ρ := a.eval) ho
          rw [he, builtin_len']
          simp [hv, hrun]
        rcases sv with ((tt | p | p | ⟨row, c⟩ | _ | _) | _ | _)
        case c.t =>
          simp only at h ⊢
          cases hn : lenT (isStrT E.P t) tt with
          | none => rw [hn] at h; exact h.elim
          | some n =>
            rw [hn] at h
            simp only at h ⊢
            refine OpOK.pure hN h rfl fun a w g hc hl' => ?_
            have hx := e2 E a w g hc hl' hopd .ret
            cases hx; rename_i hx
            cases hx; rename_i hx
            exact ⟨.int .i64 n, hex a w _ _ rfl (hx.len hl hn), fun r => .c (.t (.fro .int)), by simp [SV.roots, C.roots]⟩
        case c.ref =>
          simp only at h ⊢
          obtain ⟨t0, tt, ed, hat, hd, hexr, p1, p2, p3⟩ := deref_ok h
          rw [ed] at h ⊢
          rcases tt with _ | _ | _ | _ | _ | _ | ⟨ob, sz, ys⟩
          case sl =>
            cases ob with
            | false => exact h.elim
            | true =>
              simp only at h ⊢
              cases hs : isStrT E.P t with
              | true => rw [hs] at h; exact h.elim
              | false =>
                rw [hs] at h
                simp only [Bool.false_eq_true, if_false] at h ⊢
                refine OpOK.pure hN h rfl fun a w g hc hl' => ?_
                have hx := e2 E a w g hc hl' hopd .ret
                cases hx; rename_i hx
                obtain ⟨u, hu⟩ := hc.deref hat p1 p2 p3
                have hval : a.eval x = g.hd p := by cases hx with | ref h _ => exact h hd
                refine ⟨.int .i64 ys.length, hex a w u _ ?_ (hu.len hl (by rw [hs]; rfl)), fun r => .c (.t (.fro .int)), by simp [SV.roots, C.roots]⟩
                rw [hval, hu.own_hd]
          all_goals exact h.elim
        all_goals exact h.elim
    · rw [hts] at h; exact h.elim
  · rw [hxs] at h; exact h.elim
end
end Vx
