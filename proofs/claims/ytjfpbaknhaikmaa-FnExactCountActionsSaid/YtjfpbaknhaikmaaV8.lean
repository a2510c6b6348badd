import Derived.Test.YtjfpbaknhaikmaaV7
namespace Vx
open Go Classical
set_option linter.unusedSimpArgs false
set_option linter.unusedVariables false

section
variable {E : Env} {N : Nat} {o : Oper} {σ : Sg}

theorem SVRep.free {w : World} {g : Gh} {d : Dirt} {r r' : Root} {sv : SV} {v : Value} (h : SVRep w g d r 0 sv v) (hn : sv.hasOwn = false) : SVRep w g d r' 0 sv v := by
  cases h with
  | c h => exact .c (h.repos hn)
  | agg vs h =>
    refine .agg vs fun j x hj => (h j x hj).repos ?_
    simp only [SV.hasOwn, List.any_eq_false] at hn
    simpa using hn x (List.mem_of_getElem? hj)
  | tup vs h => simp [SV.hasOwn] at hn

theorem T.ofV_notOwn (v : Value) : (C.t (T.ofV v)).isOwn = false := by
  unfold T.ofV
  split <;> rfl
theorem SV.flat_row {sv : SV} (h : sv.row.isSome = true) : sv.flat = true := by
  cases sv with
  | tup l => simp [SV.row] at h
  | _ => rfl
theorem ok_move (hN : okOper N o = true) {x : Operand} (ho : o.op = .move x) (h : ((astep E.P o).run σ).ok) : OpOK E N o σ ((astep E.P o).run σ).upd := by
  have hs : okOpd x = true := okOper_opd hN (by rw [ho]; simp [Op.operands])
  simp only [astep, ho] at h ⊢
  obtain ⟨sv, e1, hr, e2⟩ := rdS_ok h
  rw [e1] at h ⊢
  obtain ⟨hrow, _⟩ := put_ok h
  exact OpOK.pure hN h rfl (fun a w g hc hl => ⟨a.eval x, by simp [execOp, ho], e2 E a w g hc hl hs, fun r hq => hr r hq _ _ _ _ hc⟩) (SV.flat_row hrow)

theorem ok_binOp (hN : okOper N o = true) {op : BinOp} {xt yt : TypeId} {x y : Operand} (ho : o.op = .binOp op xt x y yt) (h : ((astep E.P o).run σ).ok) : OpOK E N o σ ((astep E.P o).run σ).upd := by
  have e : astep E.P o = rdT x fun a => rdT y fun b => match binT E.P xt op a b with | some t => put o (.c (.t t)) [] True | none => fail := by simp only [astep, ho]; rfl
  rw [e] at h ⊢
  obtain ⟨a, e1, r1⟩ := rdT_ok h
  rw [e1] at h ⊢
  obtain ⟨b, e2, r2⟩ := rdT_ok h
  rw [e2] at h ⊢
  cases hb : binT E.P xt op a b with
  | none => rw [hb] at h; exact h.elim
  | some t =>
    rw [hb] at h
    simp only at h ⊢
    refine OpOK.pure hN h rfl fun ac w g hc hl => ?_
    obtain ⟨ra, ha⟩ := r1 E ac w g hc hl (okOper_opd hN (by rw [ho]; simp [Op.operands]))
    obtain ⟨rb, hb'⟩ := r2 E ac w g hc hl (okOper_opd hN (by rw [ho]; simp [Op.operands]))
    obtain ⟨v, hv, hr⟩ := binT_ok (xt := xt) (x := x) (y := y) hb ha hb'
    refine ⟨v, ?_, fun r => .c (.t (hr _)), by simp [SV.roots, C.roots]⟩
    simp only [execOp, ho]
    simp only [Sem.run_bind] at hv ⊢
    rw [hv]
    rfl

theorem ok_not (hN : okOper N o = true) {xt : TypeId} {x : Operand} (ho : o.op = .unOp .not xt x) (h : ((astep E.P o).run σ).ok) : OpOK E N o σ ((astep E.P o).run σ).upd := by
  have e : astep E.P o = rdT x fun a => match a with | .bool b => put o (.c (.t (.bool !b))) [] True | _ => fail := by simp only [astep, ho]; rfl
  rw [e] at h ⊢
  obtain ⟨a, e1, r1⟩ := rdT_ok h
  rw [e1] at h ⊢
  cases a with
  | bool b =>
    refine OpOK.pure hN h rfl fun ac w g hc hl => ?_
    obtain ⟨ra, ha⟩ := r1 E ac w g hc hl (okOper_opd hN (by rw [ho]; simp [Op.operands]))
    cases ha; rename_i ha
    generalize hv : ac.eval x = v at ha
    cases ha
    exact ⟨.bool (!b), by simp [execOp, ho, hv, Op.unary], fun r => .c (.t (.fro .bool)), by simp [SV.roots, C.roots]⟩
  | _ => exact h.elim

theorem ok_neg (hN : okOper N o = true) {xt : TypeId} {x : Operand} (ho : o.op = .unOp .neg xt x) (h : ((astep E.P o).run σ).ok) : OpOK E N o σ ((astep E.P o).run σ).upd := by
  have e : astep E.P o = rdT x fun a => match a with | .int k n => put o (.c (.t (.int k (k.wrap (-n))))) [] True | _ => fail := by simp only [astep, ho]; rfl
  rw [e] at h ⊢
  obtain ⟨a, e1, r1⟩ := rdT_ok h
  rw [e1] at h ⊢
  cases a with
  | int k n =>
    refine OpOK.pure hN h rfl fun ac w g hc hl => ?_
    obtain ⟨ra, ha⟩ := r1 E ac w g hc hl (okOper_opd hN (by rw [ho]; simp [Op.operands]))
    cases ha; rename_i ha
    generalize hv : ac.eval x = v at ha
    cases ha
    exact ⟨.int k (k.wrap (-n)), by simp [execOp, ho, hv, Op.unary, Op.intArith], fun r => .c (.t (.fro .int)), by simp [SV.roots, C.roots]⟩
  | _ => exact h.elim

theorem PRep.ptr {g : Gh} {p : CA} {v : Value} (h : PRep g p v) : ∃ ad, v = .pointer (some ad) ∧ ad.spot = none := by
  unfold PRep at h
  split at h
  · obtain ⟨k, _, e⟩ := h; exact ⟨_, e, rfl⟩
  · obtain ⟨b, off, n, cap, _, e⟩ := h; exact ⟨_, e, rfl⟩
theorem CRep.ptr_val {w : World} {g : Gh} {d : Dirt} {a p : CA} {v : Value} (h : CRep w g d a (.ptr p) v) (hp : p.path = [] ∨ d p.root p.c = false) : PRep g p v := by
  cases h with
  | ptr h h0 _ =>
    by_cases e : p.path = []
    · exact h0 e
    · exact h e (hp.resolve_left e)

theorem ok_nilCheck (hN : okOper N o = true) {x : Operand} (ho : o.op = .nilCheck x) (h : ((astep E.P o).run σ).ok) : OpOK E N o σ ((astep E.P o).run σ).upd := by
  have e : astep E.P o = rdS x fun sv => match sv with
    | .c (.ptr ⟨r, c, []⟩) => put o (.c (.ptr ⟨r, c, []⟩)) [] True
    | .c (.ptr ⟨r, c, h :: q⟩) => place r c fun _ => put o (.c (.ptr ⟨r, c, h :: q⟩)) [] True
    | .c (.fp r c) => put o (.c (.fp r c)) [] True
    | _ => fail := by simp only [astep, ho]; rfl
  rw [e] at h ⊢
  obtain ⟨sv, e1, hr, e2⟩ := rdS_ok h
  rw [e1] at h ⊢
  have hopd : okOpd x = true := okOper_opd hN (by rw [ho]; simp [Op.operands])
  rcases sv with ((t | p | ⟨r, c, _ | ⟨hp, q⟩⟩ | ⟨row, c⟩ | _ | _) | _ | _)
  case c.ptr.nil =>
    refine OpOK.pure hN h rfl fun a w g hc hl => ?_
    have hx := e2 E a w g hc hl hopd .ret
    cases hx; rename_i hx
    refine ⟨a.eval x, ?_, fun r' => .c (hx.repos rfl), fun r hq => hr r hq _ _ _ _ hc⟩
    obtain ⟨ad, he, _⟩ := (hx.ptr_val (.inl rfl)).ptr
    simp [execOp, ho, he]
  case c.ptr.cons =>
    simp only at h ⊢
    obtain ⟨t, ep, hd, _⟩ := place_ok h
    rw [ep] at h ⊢
    refine OpOK.pure hN h rfl fun a w g hc hl => ?_
    have hx := e2 E a w g hc hl hopd .ret
    cases hx; rename_i hx
    refine ⟨a.eval x, ?_, fun r' => .c (hx.repos rfl), fun r hq => hr r hq _ _ _ _ hc⟩
    obtain ⟨ad, he, _⟩ := (hx.ptr_val (.inr hd)).ptr
    simp [execOp, ho, he]
  case c.fp =>
    refine OpOK.pure hN h rfl fun a w g hc hl => ?_
    have hx := e2 E a w g hc hl hopd .ret
    cases hx; rename_i hx
    refine ⟨a.eval x, ?_, fun r' => .c (hx.repos rfl), fun r hq => hr r hq _ _ _ _ hc⟩
    generalize hv : a.eval x = v at hx
    cases hx
    simp [execOp, ho, hv]
  all_goals exact h.elim

/-! ## Addresses -/
theorem tinfo_some {P : Program} {t : TypeId} {i : TI} (h : tinfo P t = some i) : ∃ inf d, P.info? t = some inf ∧ P.underlying t = some d ∧ i.size = inf.size ∧ i.bytes = inf.bytes ∧
    i.zero = (match inf.zero with | some v => if v.cells.all smallC then v.cells.toList.map T.ofV else [] | none => []) ∧
    i.agg = (match d with | .struct _ => true | .array .. => true | _ => false) ∧ i.fld = (match d with | .struct fs => fs.toList.map (fun f => (f.offset, match P.info? f.type with | some i => i.size | none => 0)) | _ => []) ∧
    i.elem = (match d with | .slice e => some e | _ => none) := by
  unfold tinfo at h
  split at h
  · rename_i inf d h1 h2
    cases h
    exact ⟨inf, d, h1, h2, rfl, rfl, rfl, rfl, rfl, rfl⟩
  · cases h
theorem tinfo_fld {P : Program} {t : TypeId} {i : TI} {f off n : Nat} (h : tinfo P t = some i) (hf : i.fld[f]? = some (off, n + 1)) : ∃ fs fl inf, P.underlying t = some (.struct fs) ∧ fs[f]? = some fl ∧ fl.offset = off ∧
    P.info? fl.type = some inf ∧ inf.size = n + 1 := by
  obtain ⟨inf, d, _, h2, _, _, _, _, h7, _⟩ := tinfo_some h
  rw [h7] at hf
  cases d with
  | struct fs =>
    simp only [List.getElem?_map, Option.map_eq_some_iff, Prod.mk.injEq] at hf
    obtain ⟨fl, e1, e2, e3⟩ := hf
    cases hi : P.info? fl.type with
    | none => rw [hi] at e3; simp at e3
    | some inf => rw [hi] at e3; exact ⟨fs, fl, inf, h2, by simpa using e1, e2, hi, e3⟩
  | _ => simp at hf
theorem tinfo_elem {P : Program} {t : TypeId} {i : TI} {e : TypeId} (h : tinfo P t = some i) (he : i.elem = some e) : P.underlying t = some (.slice e) := by
  obtain ⟨inf, d, _, h2, _, _, _, _, _, h8⟩ := tinfo_some h
  rw [h8] at he
  cases d with
  | slice e' => simp at he; rw [h2, he]
  | _ => simp at he
theorem addr_add (b off n : Nat) : (⟨b, off, none⟩ : Addr).add n = ⟨b, off + n, none⟩ := by
  unfold Addr.add
  split
  · rename_i h; subst h; rfl
  · rfl

theorem run_fieldAt {P : Program} {s : TypeId} {i : TI} {f off n : Nat} (h : tinfo P s = some i) (hf : i.fld[f]? = some (off, n + 1)) (b o : Nat) (w : World) :
    (Instr.fieldAt s (.pointer (some ⟨b, o, none⟩)) f).run P w = .ok (.pointer (some ⟨b, o + off, none⟩)) w := by
  obtain ⟨fs, fl, inf, h1, h2, h3, h4, h5⟩ := tinfo_fld h hf
  simp [Instr.fieldAt, underlying, h1, h2, Instr.sureAddr, fieldPlace, Go.sizeOf, typeInfo, h4, h5, addr_add, h3]

theorem PRep.path_cons {g : Gh} {r : Root} {c : Nat} {h : Hop} {q : List Hop} {v : Value} : PRep g ⟨r, c, h :: q⟩ v ↔ ∃ b off n cap, g.hd ⟨r, c, q⟩ = .slice (some ⟨b, off, none⟩) n cap ∧ v = .pointer (some ⟨b, off + h.i * h.sz + h.c, none⟩) := Iff.rfl
theorem PRep.path_nil {g : Gh} {r : Root} {c : Nat} {v : Value} : PRep g ⟨r, c, []⟩ v ↔ ∃ k, r = .obj k ∧ v = .pointer (some ⟨(g.bl k).1, (g.bl k).2.1 + c, none⟩) := Iff.rfl

theorem ok_fieldAddr (hN : okOper N o = true) {s : TypeId} {x : Operand} {f : Nat} (ho : o.op = .fieldAddr s x f) (h : ((astep E.P o).run σ).ok) : OpOK E N o σ ((astep E.P o).run σ).upd := by
  have hopd : okOpd x = true := okOper_opd hN (by rw [ho]; simp [Op.operands])
  simp only [astep, ho] at h ⊢
  cases hi : tinfo E.P s with
  | none => rw [hi] at h; exact h.elim
  | some i =>
    rw [hi] at h
    simp only at h ⊢
    cases hf : i.fld[f]? with
    | none => rw [hf] at h; exact h.elim
    | some p =>
      obtain ⟨off, n⟩ := p
      cases n with
      | zero => rw [hf] at h; exact h.elim
      | succ n =>
        rw [hf] at h
        simp only at h ⊢
        obtain ⟨sv, e1, hr, e2⟩ := rdS_ok h
        rw [e1] at h ⊢
        rcases sv with ((t | p | ⟨r, c, _ | ⟨hp, q⟩⟩ | ⟨row, c⟩ | _ | _) | _ | _)
        case c.ptr.nil =>
          refine OpOK.pure hN h rfl fun a w g hc hl => ?_
          have hx := e2 E a w g hc hl hopd .ret
          cases hx; rename_i hx
          obtain ⟨k, rfl, hv⟩ := PRep.path_nil.1 (hx.ptr_val (.inl rfl))
          refine ⟨.pointer (some ⟨(g.bl k).1, (g.bl k).2.1 + c + off, none⟩), ?_, fun r' => .c (.ptr (fun e => absurd rfl e) (fun _ => PRep.path_nil.2 ⟨k, rfl, by rw [Nat.add_assoc]⟩) rfl), fun r hq => hr r (by simpa [SV.roots, C.roots] using hq) _ _ _ _ hc⟩
          simp only [execOp, ho, hv]
          simp [run_fieldAt hi hf]
        case c.ptr.cons =>
          simp only at h ⊢
          obtain ⟨t, ep, hd, _⟩ := place_ok h
          rw [ep] at h ⊢
          refine OpOK.pure hN h rfl fun a w g hc hl => ?_
          have hx := e2 E a w g hc hl hopd .ret
          cases hx; rename_i hx
          obtain ⟨b, o', m, cap, h1, hv⟩ := PRep.path_cons.1 (hx.ptr_val (.inr hd))
          refine ⟨.pointer (some ⟨b, o' + hp.i * hp.sz + hp.c + off, none⟩), ?_, fun r' => .c (.ptr (fun _ _ => PRep.path_cons.2 ⟨b, o', m, cap, h1, by rw [Nat.add_assoc _ hp.c off]⟩) (fun e => by cases e) rfl), fun r hq => hr r (by simpa [SV.roots, C.roots] using hq) _ _ _ _ hc⟩
          simp only [execOp, ho, hv]
          simp [run_fieldAt hi hf]
        case c.fp =>
          refine OpOK.pure hN h rfl fun a w g hc hl => ?_
          have hx := e2 E a w g hc hl hopd .ret
          cases hx; rename_i hx
          generalize hv : a.eval x = v at hx
          cases hx with
          | fp vs hh ho' hcell hrec =>
            rename_i b o' cs el fr
            refine ⟨.pointer (some ⟨b, o' + (c + off), none⟩), ?_, fun r' => .c (.fp vs hh ho' hcell hrec), fun r hq => by simp [SV.roots, C.roots] at hq⟩
            simp only [execOp, ho, hv]
            simp [run_fieldAt hi hf, Nat.add_assoc]
        all_goals exact h.elim
end
end Vx
