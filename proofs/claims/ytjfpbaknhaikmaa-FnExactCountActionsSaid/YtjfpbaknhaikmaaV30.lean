import Derived.Test.YtjfpbaknhaikmaaV29e
namespace Vx
open Go Classical
set_option linter.unusedSimpArgs false
set_option linter.unusedVariables false

section
variable {E : Env} {N : Nat} {o : Oper} {σ : Sg}
theorem ok_pick (hN : okOper N o = true) {c : Nat} {a b : Operand} {t : Bool} (ho : o.op = .pick (.tmp c) a b) (hs : σ.slot c = .c (.t (.bool t)))
    (h : ((rdS (if t then a else b) fun sv => Vx.put o sv [] (sv.row.isSome = true)).run σ).ok) : OpOK E N o σ ((rdS (if t then a else b) fun sv => Vx.put o sv [] (sv.row.isSome = true)).run σ).upd := by
  have hopd : okOpd (if t then a else b) = true := okOper_opd hN (by rw [ho]; cases t <;> simp [Op.operands])
  obtain ⟨sv, e1, hr, e2⟩ := rdS_ok h
  rw [e1] at h ⊢
  obtain ⟨hrow, _⟩ := put_ok h
  refine OpOK.pure hN h rfl (fun ac w g hc hl => ⟨ac.eval (if t then a else b), ?_, e2 E ac w g hc hl hopd, fun r hq => hr r hq _ _ _ _ hc⟩) (SV.flat_row hrow)
  have hv : ac.eval (.tmp c) = .bool t := slot_bool hc hs
  simp [execOp, ho, hv, asBool]
  cases t <;> rfl

theorem ok_store (hN : okOper N o = true) {t : TypeId} {p v : Operand} (ho : o.op = .store t p v) (h : ((astep E.P o).run σ).ok) : OpOK E N o σ ((astep E.P o).run σ).upd := by
  have hopd : okOpd p = true := okOper_opd hN (by rw [ho]; simp [Op.operands])
  simp only [astep, ho] at h ⊢
  unfold stepStore at h ⊢
  cases hi : tinfo E.P t with
  | none => rw [hi] at h; exact h.elim
  | some i =>
    rw [hi] at h
    simp only at h ⊢
    obtain ⟨sv, e1, hr, e2⟩ := rdS_ok h
    rw [e1] at h ⊢
    rcases sv with ((tt | pp | ⟨r, c, _ | ⟨hp, q⟩⟩ | ⟨row, c⟩ | _ | _) | _ | _)
    case c.ptr.nil =>
      cases r with
      | obj k =>
        simp only [Rd.run] at h ⊢
        cases hk : σ.kind k with
        | none => rw [hk] at h; exact h.elim
        | some kd =>
          cases kd with
          | virt => rw [hk] at h; exact h.elim
          | box m =>
            rw [hk] at h
            simp only at h ⊢
            exact ok_store_box hN ho hi (k := k) (c := c) (m := m) (fun a w g hc hl => by
              have hx := e2 E a w g hc hl hopd .ret
              cases hx; rename_i hx
              exact hx.ptr_val (.inl rfl)) hk h rfl
      | _ => exact h.elim
    case c.ptr.cons =>
      refine ok_store_path hN ho hi (r := r) (c := c) (h := hp) (q := q) (fun a w g hc hl => ?_) (A := _) ?_ h rfl
      · have hx := e2 E a w g hc hl hopd .ret
        cases hx; rename_i hx
        exact hx
      · cases r <;> rfl
    all_goals exact h.elim
theorem astep_ok (hN : okOper N o = true) (h : ((astep E.P o).run σ).ok) : OpOK E N o σ ((astep E.P o).run σ).upd := by
  cases ho : o.op with
  | move x => exact ok_move hN ho h
  | assign x => exact ok_assign hN ho h
  | nilCheck x => exact ok_nilCheck hN ho h
  | binOp op xt x y yt => exact ok_binOp hN ho h
  | unOp op xt x =>
    cases op with
    | not => exact ok_not hN ho h
    | neg => exact ok_neg hN ho h
    | _ => unfold astep at h; rw [ho] at h; exact h.elim
  | fieldAddr s x f => exact ok_fieldAddr hN ho h
  | indexAddr t x i => exact ok_indexAddr hN ho h
  | load t p => exact ok_load hN ho h
  | store t p v => exact ok_store hN ho h
  | alloc t => exact ok_alloc hN ho h
  | box t x => exact ok_box hN ho h
  | build t parts => exact ok_build hN ho h
  | makeSlice t l c => exact ok_makeSlice hN ho h
  | extract x i => exact ok_extract hN ho h
  | call c =>
    obtain ⟨callee, args, ats⟩ := c
    cases callee with
    | builtin b =>
      cases b with
      | len => exact ok_len hN ho h
      | _ => unfold astep at h; rw [ho] at h; exact h.elim
    | _ => unfold astep at h; rw [ho] at h; exact h.elim
  | _ => unfold astep at h; rw [ho] at h; exact h.elim
theorem step1_ok (E : Env) (N : Nat) : Step1OK E N (Returns E) := by
  intro o an σ hN h
  unfold ostep1 at h ⊢
  split at h
  · rename_i c a b ho
    simp only [Rd.run] at h ⊢
    split at h
    · rename_i t hs
      exact ok_pick hN ho hs h
    · exact h.elim
  · rename_i g args ats ho
    exact call_ok hN ho h
  · exact astep_ok hN h
end
end Vx
