import Derived.Test.YtjfpbaknhaikmaaV8
namespace Vx
open Go Classical
set_option linter.unusedSimpArgs false
set_option linter.unusedVariables false

theorem run_sizeOf {P : Program} {t : TypeId} {i : TI} (h : tinfo P t = some i) (w : World) : (Go.sizeOf t).run P w = .ok i.size w := by
  obtain ⟨inf, d, h1, h2, h3, _⟩ := tinfo_some h
  simp [Go.sizeOf, typeInfo, h1, h3]
theorem run_isAgg {P : Program} {t : TypeId} {i : TI} (h : tinfo P t = some i) (w : World) : (isAgg t).run P w = .ok i.agg w := by
  obtain ⟨inf, d, h1, h2, h3, h4, h5, h6, _⟩ := tinfo_some h
  simp only [isAgg, underlying, Sem.run_bind, run_program, Result.andThen_ok, h2, Sem.run_pure, h6]
  cases d <;> rfl
theorem run_indexAt {P : Program} {t e : TypeId} {i ei : TI} (h : tinfo P t = some i) (he : i.elem = some e) (hei : tinfo P e = some ei) (b off n cap : Nat) (k : IntKind) (x : Int) (h0 : 0 ≤ x) (hn : x.toNat < n) (w : World) :
    (Instr.indexAt t (.slice (some ⟨b, off, none⟩) n cap) (.int k x)).run P w = .ok (.pointer (some ⟨b, off + x.toNat * ei.size, none⟩)) w := by
  have hu := tinfo_elem h he
  have hlt : x < (n : Int) := by omega
  have h1 : (underlying t).run P w = .ok (.slice e) w := by simp [underlying, hu]
  simp [Instr.indexAt, asIntOf, h1, h0, hlt, run_sizeOf hei, addr_add]

theorem lt_of_getElem? {α : Type} {l : List α} {i : Nat} {x : α} (h : l[i]? = some x) : i < l.length := by
  rcases Nat.lt_or_ge i l.length with k | k
  · exact k
  · rw [List.getElem?_eq_none k] at h; exact absurd h (by simp)

section
variable {E : Env} {N : Nat} {o : Oper} {σ : Sg}

theorem ok_indexAddr (hN : okOper N o = true) {t : TypeId} {x ix : Operand} (ho : o.op = .indexAddr t x ix) (h : ((astep E.P o).run σ).ok) : OpOK E N o σ ((astep E.P o).run σ).upd := by
  have hopx : okOpd x = true := okOper_opd hN (by rw [ho]; simp [Op.operands])
  have hopi : okOpd ix = true := okOper_opd hN (by rw [ho]; simp [Op.operands])
  simp only [astep, ho] at h ⊢
  unfold stepIndex at h ⊢
  cases hi : tinfo E.P t with
  | none => rw [hi] at h; exact h.elim
  | some i =>
    obtain ⟨kd, agg, size, bytes, zero, fld, el⟩ := i
    cases el with
    | none => rw [hi] at h; exact h.elim
    | some e =>
      rw [hi] at h
      simp only at h ⊢
      cases hei : tinfo E.P e with
      | none => rw [hei] at h; exact h.elim
      | some ei =>
        rw [hei] at h
        simp only at h ⊢
        obtain ⟨sv, e1, hr, e2⟩ := rdS_ok h
        rw [e1] at h ⊢
        obtain ⟨ti, e3, r2⟩ := rdT_ok h
        rw [e3] at h ⊢
        cases ti with
        | int k n =>
          simp only at h ⊢
          have hidx : ∀ (a : Act) w g, Core E σ a.tmps w g → LIM ≤ g.lim → a.eval ix = .int k n := by
            intro a w g hc hl
            obtain ⟨r, hx⟩ := r2 E a w g hc hl hopi
            cases hx; rename_i hx
            generalize a.eval ix = v at hx
            cases hx; rfl
          rcases sv with ((tt | p | p | ⟨row, c⟩ | _ | _) | _ | _)
          case c.t =>
            rcases tt with _ | _ | _ | _ | _ | _ | ⟨ob, sz, xs⟩
            case sl =>
              cases ob with
              | false =>
                simp only at h ⊢
                by_cases hsz : sz = ei.size
                · rw [if_pos hsz] at h ⊢
                  cases hrow : xs[n.toNat]? with
                  | none => rw [hrow] at h; exact h.elim
                  | some row =>
                    rw [hrow] at h
                    simp only at h ⊢
                    obtain ⟨h0, _⟩ := put_ok h
                    refine OpOK.pure hN h rfl fun a w g hc hl => ?_
                    have hv := hidx a w g hc hl
                    have hx := e2 E a w g hc hl hopx .ret
                    cases hx; rename_i hx
                    cases hx; rename_i hx
                    have hx := hx.isFro (by intro _ _ e; cases e)
                    have hlt := lt_of_getElem? hrow
                    generalize hval : a.eval x = v at hx
                    cases hx with
                    | fnil => simp at hrow
                    | fz vs hh ho' hcap hlim hrw hcell hrec =>
                      rename_i b off cap cs el' fr
                      refine ⟨.pointer (some ⟨b, off + n.toNat * ei.size + 0, none⟩), ?_, fun r' => .c (.fp (vs n.toNat) hh ho' (fun j hj => ?_) (fun j y hj => ?_)), by simp [SV.roots, C.roots]⟩
                      · simp only [execOp, ho, hval, hv]
                        simp [run_indexAt hi rfl hei b off _ cap k n h0 hlt]
                      · rw [← hsz]
                        exact hcell _ _ hlt (by rw [← hrw row (List.mem_of_getElem? hrow)]; exact hj)
                      · exact hrec _ _ _ _ hrow hj
                · rw [if_neg hsz] at h; exact h.elim
              | true => exact h.elim
            all_goals exact h.elim
          case c.ref =>
            simp only at h ⊢
            obtain ⟨t0, tt, ed, hat, hd, hex, p1, p2, p3⟩ := deref_ok h
            rw [ed] at h ⊢
            rcases tt with _ | _ | _ | _ | _ | _ | ⟨ob, sz, xs⟩
            case sl =>
              cases ob with
              | false => exact h.elim
              | true =>
                simp only at h ⊢
                by_cases hsz : sz = ei.size
                · rw [if_pos hsz] at h ⊢
                  cases hrow : xs[n.toNat]? with
                  | none => rw [hrow] at h; exact h.elim
                  | some row =>
                    rw [hrow] at h
                    simp only at h ⊢
                    obtain ⟨h0, _⟩ := put_ok h
                    refine OpOK.pure hN h rfl fun a w g hc hl => ?_
                    have hv := hidx a w g hc hl
                    have hx := e2 E a w g hc hl hopx .ret
                    cases hx; rename_i hx
                    have hlt := lt_of_getElem? hrow
                    obtain ⟨u, hu⟩ := hc.deref hat p1 p2 p3
                    have hval : a.eval x = g.hd p := by cases hx with | ref h _ => exact h hd
                    have huv : u = g.hd p := hu.own_hd
                    cases hu with
                    | fro h => exact h.noOwn.elim
                    | onil => simp at hrow
                    | own vs hd' hh ho' hsize hcap hlim hrw hcell hrec =>
                      rename_i b off cap cs el'
                      refine ⟨.pointer (some ⟨b, off + n.toNat * sz + 0, none⟩), ?_, fun r' => .c (.ptr (fun _ _ => PRep.path_cons.2 ⟨b, off, _, cap, hd', rfl⟩) (fun e => by cases e) rfl), fun r hq => ?_⟩
                      · simp only [execOp, ho, hval, hd', hv]
                        simp [run_indexAt hi rfl hei b off _ cap k n h0 hlt, hsz]
                      · simp only [SV.roots, C.roots, List.mem_singleton] at hq
                        rw [hq]
                        exact hex
                · rw [if_neg hsz] at h; exact h.elim
            all_goals exact h.elim
          all_goals exact h.elim
        | _ => exact h.elim
end
end Vx
