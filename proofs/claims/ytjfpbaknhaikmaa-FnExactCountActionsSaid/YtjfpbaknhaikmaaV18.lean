import Derived.Test.YtjfpbaknhaikmaaV17
namespace Vx
open Go Classical
set_option linter.unusedSimpArgs false
set_option linter.unusedVariables false

section
variable {E : Env} {N : Nat} {o : Oper} {σ : Sg}

theorem Core.newboxPut {tmps : Array Value} {w : World} {g : Gh} (hc : Core E σ tmps w g) {d : Nat} (hd : d < tmps.size) (hn : σ.isnew d = false) (hk : σ.kind (100000 + d) = none) (hm : σ.mp (100000 + d) = none) {cs : Array Value} {el : TypeId} {row : List C}
    (hrow : ∀ j x, row[j]? = some x → ∃ u, cs[j]? = some u ∧ CRep w g σ.dirty ⟨.obj (100000 + d), j, []⟩ x u) (hlen : row.length = cs.size) (hroots : ∀ x ∈ row, ∀ r ∈ x.roots, σ.ex r) :
    ∃ g', Core E ((σ.upd (.box (100000 + d) row)).upd (.slot d (.c (.ptr ⟨.obj (100000 + d), 0, []⟩)))) (tmps.setIfInBounds d (.pointer (some ⟨w.heap.size, 0, none⟩))) (w.alloc (.cells cs el (0, 0))) g' ∧ Move w g (w.alloc (.cells cs el (0, 0))) g' := by
  have hex : ¬ σ.ex (.obj (100000 + d)) := by simp only [Sg.ex]; rw [hk, hm]; simp
  refine ⟨_, (hc.newbox hex hrow hlen hroots).put (by exact hn) (.c (.ptr (fun h => absurd rfl h) (fun _ => PRep.path_nil.2 ⟨100000 + d, rfl, ?_⟩) rfl)) (fun r hr => ?_) rfl (.inl hd), fresh_move (w := w) (ob := .cells cs el (0, 0)) fun k hk' => ?_⟩
  · simp [Gh.fresh]
  · simp only [SV.roots, C.roots, List.mem_singleton] at hr
    subst hr
    right; left
    simp [Sg.upd]
  · rw [if_neg (by omega)]

theorem ok_alloc (hN : okOper N o = true) {t : TypeId} (ho : o.op = .alloc t) (h : ((astep E.P o).run σ).ok) : OpOK E N o σ ((astep E.P o).run σ).upd := by
  simp only [astep, ho] at h ⊢
  cases hd : o.dst with
  | none => rw [hd] at h; exact h.elim
  | some d =>
    cases hi : tinfo E.P t with
    | none => rw [hd, hi] at h; exact h.elim
    | some i =>
      rw [hd, hi] at h
      simp only [Rd.run] at h ⊢
      cases hk : σ.kind (100000 + d) with
      | some kd => rw [hk] at h; exact h.elim
      | none =>
        cases hm : σ.mp (100000 + d) with
        | some m => rw [hk, hm] at h; exact h.elim
        | none =>
          rw [hk, hm] at h
          simp only at h ⊢
          obtain ⟨⟨hz1, hz2⟩, h2, _⟩ := put_ok h
          obtain ⟨hn, e, hdi⟩ := h2 d hd
          rw [e]
          obtain ⟨inf, z, a1, a2, a3, a4, a5, a6⟩ := tinfo_zero hi hz1 hz2
          intro a w g hc hs hl K Q hK
          have hex : (execOp a.eval o).run E.P w = .ok (.value (.pointer (some ⟨w.heap.size, 0, none⟩))) (w.alloc (.cells z.cells t (0, 0))) := by
            simp [execOp, ho, Instr.alloc, zeroValue, typeInfo, a1, a2, newVar, newRow]
          unfold Oper.wp
          rw [hex, Oper.upon_value, hd]
          have hzr := zero_rel (w := w) (g := g) (d := σ.dirty) hl a3 a4
          obtain ⟨g', hc', hmv⟩ := hc.newboxPut (cs := z.cells) (el := t) (row := i.zero.map C.t) (by rw [hs]; exact dst_lt hN hd) hn hk hm (fun j x hj => by
            obtain ⟨q1, q2⟩ := hzr ⟨.obj (100000 + d), j, []⟩
            have hlt := lt_of_getElem? hj
            have hlt' : j < z.cells.size := by rw [q1]; exact hlt
            exact ⟨_, Array.getElem?_eq_getElem hlt', (q2 j x _ hj (Array.getElem?_eq_getElem hlt')).1⟩) (hzr ⟨.ret, 0, []⟩).1.symm (fun x hx r hr => by
            obtain ⟨y, _, rfl⟩ := List.mem_map.1 hx
            simp [C.roots] at hr)
          exact hK _ _ g' hc' hmv (by simpa [Act.put] using hs) rfl

theorem ok_box (hN : okOper N o = true) {t : TypeId} {x : Operand} (ho : o.op = .box t x) (h : ((astep E.P o).run σ).ok) : OpOK E N o σ ((astep E.P o).run σ).upd := by
  have hopd : okOpd x = true := okOper_opd hN (by rw [ho]; simp [Op.operands])
  simp only [astep, ho] at h ⊢
  cases hd : o.dst with
  | none => rw [hd] at h; exact h.elim
  | some d =>
    cases hi : tinfo E.P t with
    | none => rw [hd, hi] at h; exact h.elim
    | some i =>
      rw [hd, hi] at h
      simp only [Rd.run] at h ⊢
      cases hk : σ.kind (100000 + d) with
      | some kd => rw [hk] at h; exact h.elim
      | none =>
        cases hm : σ.mp (100000 + d) with
        | some m => rw [hk, hm] at h; exact h.elim
        | none =>
          rw [hk, hm] at h
          simp only at h ⊢
          unfold moveS at h ⊢
          obtain ⟨row0, e1, hrow⟩ := rdRow_ok h
          rw [e1] at h ⊢
          obtain ⟨row, us, ht, e2⟩ := moveL_ok h
          rw [e2] at h ⊢
          obtain ⟨hsz, h2, _⟩ := put_ok h
          obtain ⟨hn, e, hdi⟩ := h2 d hd
          rw [e]
          intro a w g hc hs hl K Q hK
          obtain ⟨vs, hcells, hval⟩ := hrow E a w g hc hl hopd
          have hex0 : ¬ σ.ex (.obj (100000 + d)) := by simp only [Sg.ex]; rw [hk, hm]; simp
          obtain ⟨g1, tk, hr⟩ := ht.at_root hc (distinct_left (distinct_left hdi)) hex0 hcells
          have hex : (execOp a.eval o).run E.P w = .ok (.value (.pointer (some ⟨w.heap.size, 0, none⟩))) (w.alloc (.cells (a.eval x).cells t (0, 0))) := by
            simp [execOp, ho, Instr.box, newVar, newRow]
          unfold Oper.wp
          rw [hex, Oper.upon_value, hd]
          obtain ⟨g', hc', hmv⟩ := tk.core.newboxPut (cs := (a.eval x).cells) (el := t) (row := row) (d := d) (by rw [hs]; exact dst_lt hN hd) (by rw [tk.isnew]; exact hn) (by rw [tk.kind]; exact hk) (by rw [tk.mp]; exact hm) (fun j y hj => by
            have hlt := lt_of_getElem? hj
            rw [ht.length] at hlt
            refine ⟨vs j, by rw [hval]; simp [hlt], ?_⟩
            rw [tk.dirty]
            exact hr j y hj) (by rw [hval, ht.length]; simp) (fun y hy r hq => by
            rw [tk.ex]
            obtain ⟨z, hz1, hz2⟩ := ht.roots y hy r hq
            obtain ⟨j, hj⟩ := List.getElem?_of_mem hz1
            exact (hcells j z hj).2.2 r hz2)
          refine hK _ _ g' ?_ (tk.move.trans hmv) (by simpa [Act.put] using hs) rfl
          rw [upds_append, upds_append]
          exact hc'

theorem keys_left {x : SV} {us : List Upd} {ok : Prop} (h : ((Vx.put o x us ok).run σ).ok) : distinct (keysOf us) = true := by
  obtain ⟨_, h2, h3⟩ := put_ok h
  cases hd : o.dst with
  | none => exact (h3 hd).2
  | some d => exact distinct_left (h2 d hd).2.2
/-- An operation that writes and has no result. -/
theorem OpOK.skip (hN : okOper N o = true) {us : List Upd} {ok : Prop} (h : ((Vx.put o undefS us ok).run σ).ok)
    (hx : ∀ (a : Act) w g, Core E σ a.tmps w g → a.tmps.size = N → LIM ≤ g.lim → ∃ w' g', (execOp a.eval o).run E.P w = .ok .skip w' ∧ Core E (σ.upds us) a.tmps w' g' ∧ Move w g w' g' ∧ (σ.upds us).isnew = σ.isnew) :
    OpOK E N o σ ((Vx.put o undefS us ok).run σ).upd := by
  intro a w g hc hs hl K Q hK
  obtain ⟨w', g', he, hc', hm, hn'⟩ := hx a w g hc hs hl
  unfold Oper.wp
  rw [he, Oper.upon_skip]
  obtain ⟨_, h2, h3⟩ := put_ok h
  cases hd : o.dst with
  | none =>
    refine hK _ w' g' ?_ hm hs rfl
    rw [(h3 hd).1]
    exact hc'
  | some d =>
    obtain ⟨hn, e, _⟩ := h2 d hd
    refine hK _ w' g' ?_ hm (by simpa [Act.put] using hs) rfl
    rw [e, upds_append]
    exact (hc'.put (by rw [hn']; exact hn) (.c (.t (.fro .val))) (by simp [SV.roots, C.roots]) rfl (.inl (by rw [hs]; exact dst_lt hN hd)))
theorem boxUpd_isnew {τ : Sg} {k c m : Nat} {row : List C} (hk : τ.kind k = some (.box m)) (hc : c + row.length ≤ m) : (τ.upds (storeCells' k c row)).isnew = τ.isnew := (boxUpd row τ k c hk hc).isnew

theorem run_storeAt {P : Program} {t : TypeId} {i : TI} (h : tinfo P t = some i) {b off : Nat} {v : Value} {w : World} {cs : Array Value} {el : TypeId} (hh : w.heap[b]? = some (.cells cs el (0, 0)))
    (hs : v.cells.size = i.size) (hb : off + v.cells.size ≤ cs.size) (h1 : ∀ u ∈ v.cells, u.oneCell' = true) :
    (Instr.storeAt t (.pointer (some ⟨b, off, none⟩)) v).run P w = .ok () (w.setRow b (cs.toList.take off ++ v.cells.toList ++ cs.toList.drop (off + v.cells.toList.length)).toArray) := by
  have := run_storeCells_at (P := P) b off el v.cells.toList 0 cs w hh (by simpa using hb) (by simpa using h1)
  simp only [Nat.add_zero] at this
  simp [Instr.storeAt, Instr.sureAddr, storeVar, run_sizeOf h, hs, this]

theorem ok_store_box (hN : okOper N o = true) {t : TypeId} {p v : Operand} (ho : o.op = .store t p v) {i : TI} (hi : tinfo E.P t = some i) {k c m : Nat} {us : List Upd}
    (hp : ∀ (a : Act) w g, Core E σ a.tmps w g → LIM ≤ g.lim → PRep g ⟨.obj k, c, []⟩ (a.eval p)) (hk : σ.kind k = some (.box m))
    (h : ((moveS v fun row us => Vx.put o undefS (us ++ storeCells' k c row) (row.length = i.size ∧ c + i.size ≤ m ∧ row.all C.one = true)).run σ).ok)
    (hus : us = ((moveS v fun row us => Vx.put o undefS (us ++ storeCells' k c row) (row.length = i.size ∧ c + i.size ≤ m ∧ row.all C.one = true)).run σ).upd) : OpOK E N o σ us := by
  have hopd : okOpd v = true := okOper_opd hN (by rw [ho]; simp [Op.operands])
  subst hus
  unfold moveS at h ⊢
  obtain ⟨row0, e1, hrow⟩ := rdRow_ok h
  rw [e1] at h ⊢
  obtain ⟨row, us, ht, e2⟩ := moveL_ok h
  rw [e2] at h ⊢
  obtain ⟨⟨hs1, hs2, hs3⟩, h2, h3⟩ := put_ok h
  refine OpOK.skip hN h ?_
  intro a w g hc hs hl
  obtain ⟨vs, hcells, hval⟩ := hrow E a w g hc hl hopd
  obtain ⟨g1, tk, hr⟩ := ht.at_root hc (distinct_left (keys_left h)) (r := .ret) (fun h => h) hcells
  obtain ⟨k', ek, hpv⟩ := PRep.path_nil.1 (hp a w g hc hl)
  cases ek
  have hk1 : (σ.upds us).kind k = some (.box m) := by rw [tk.kind]; exact hk
  obtain ⟨cs, el, b1, b2, b3, b4, b5⟩ := tk.core.objs k _ hk1
  have hexk : σ.ex (.obj k) := .inr (.inl (by rw [hk]; simp))
  have hbl : g1.bl k = g.bl k := tk.keeps.bl k hexk
  have hlen : (a.eval v).cells.toList = (List.range row.length).map vs := by rw [hval, ht.length]
  have hlen2 : (a.eval v).cells.size = row.length := by rw [hval, ht.length]; simp
  have hst := run_storeAt (P := E.P) hi (b := (g1.bl k).1) (off := (g1.bl k).2.1 + c) (v := a.eval v) b1 (by rw [hlen2]; exact hs1) (by rw [hlen2]; omega) (fun u hu => by
    have hu' : u ∈ (List.range row.length).map vs := by rw [← hlen]; simpa using hu
    obtain ⟨j, hj, rfl⟩ := List.mem_map.1 hu'
    have hj' : j < row.length := by simpa using hj
    refine (hr j row[j] (List.getElem?_eq_getElem hj')).one ?_
    simp only [List.all_eq_true] at hs3
    exact hs3 _ (List.getElem_mem hj'))
  have hex : (execOp a.eval o).run E.P w = .ok .skip (w.setRow (g1.bl k).1 (cs.toList.take ((g1.bl k).2.1 + c) ++ (List.range row.length).map vs ++ cs.toList.drop ((g1.bl k).2.1 + c + row.length)).toArray) := by
    rw [hlen] at hst
    simp only [List.length_map, List.length_range] at hst
    simp only [execOp, ho, hpv, ← hbl]
    simp only [Sem.run_bind, hst]
    rfl
  obtain ⟨hc2, hmv⟩ := tk.core.storeCells (k := k) (c := c) (row := row) hk1 (by rw [hs1]; exact hs2) (fun j x hj => by rw [tk.dirty]; exact hr j x hj) (fun y hy r hq => by
    rw [tk.ex]
    obtain ⟨z, hz1, hz2⟩ := ht.roots y hy r hq
    obtain ⟨j, hj⟩ := List.getElem?_of_mem hz1
    exact (hcells j z hj).2.2 r hz2) b1 rfl
  refine ⟨_, _, hex, ?_, tk.move.trans hmv, by rw [upds_append, boxUpd_isnew hk1 (by rw [hs1]; exact hs2), tk.isnew]⟩
  rw [upds_append]
  exact hc2
end
end Vx
