import Derived.Test.YtjfpbaknhaikmaaV29d
namespace Vx
open Go Classical
set_option linter.unusedSimpArgs false
set_option linter.unusedVariables false

section
variable {E : Env} {N : Nat} {o : Oper} {σ : Sg}

theorem dirt_set {τ : Sg} {r : Root} {c : Nat} {t T' : T} (hp : PlaceIs τ r c t) : (τ.upd (.set r c T')).upds (dirtP r c) = { τ with dirty := fun r' j => if r' = r ∧ j = c then true else τ.dirty r' j }.upd (.set r c T') := by
  cases r with
  | slot n =>
    have := (hp.slot n (.inl rfl)).1
    have e : (τ.setP (.slot n) c (.t T')).rt n = .slot n := by rw [Sg.setP_rt, ← this]
    simp only [dirtP, Sg.upds, List.foldl_cons, List.foldl_nil, Sg.upd, e]
    simp [Sg.setP]
  | new n =>
    have := (hp.slot n (.inr rfl)).1
    have e : (τ.setP (.new n) c (.t T')).rt n = .new n := by rw [Sg.setP_rt, ← this]
    simp only [dirtP, Sg.upds, List.foldl_cons, List.foldl_nil, Sg.upd, e]
    simp [Sg.setP]
  | obj k => rfl
  | ret => exact absurd rfl hp.nret

theorem ok_store_path (hN : okOper N o = true) {t : TypeId} {p v : Operand} (ho : o.op = .store t p v) {i : TI} (hi : tinfo E.P t = some i) {r : Root} {c : Nat} {h : Hop} {q : List Hop} {us : List Upd}
    (hp : ∀ (a : Act) w g, Core E σ a.tmps w g → LIM ≤ g.lim → CRep w g σ.dirty ⟨.ret, 0, []⟩ (.ptr ⟨r, c, h :: q⟩) (a.eval p)) {A : Rd Eff}
    (hA : A = takeS v fun ts us => place r c fun t => match atCells t h q ts.length with
        | some _ => Vx.put o undefS (us ++ [.set r c (putCells t h q ts)] ++ (if ts.any T.isOwn then dirtP r c else [])) (ts.length = i.size ∧ 0 < i.size ∧ ts.all T.one = true)
        | none => fail) (hok : (A.run σ).ok) (hus : us = (A.run σ).upd) : OpOK E N o σ us := by
  have hopd : okOpd v = true := okOper_opd hN (by rw [ho]; simp [Op.operands])
  subst hus hA
  unfold takeS at hok ⊢
  obtain ⟨row0, e1, hrow0⟩ := rdRow_ok hok
  rw [e1] at hok ⊢
  obtain ⟨ts, us, ht, e2⟩ := takeL_ok hok
  rw [e2] at hok ⊢
  obtain ⟨tt, e3, hpl⟩ := place_is hok
  rw [e3] at hok ⊢
  cases hat : atCells tt h q ts.length with
  | none => rw [hat] at hok; exact hok.elim
  | some old =>
    rw [hat] at hok
    simp only at hok ⊢
    obtain ⟨⟨hs1, hs2, hs3⟩, _, _⟩ := put_ok hok
    have hkeys := keys_left hok
    have hk1 : distinct (keysOf (us ++ [.set r c (putCells tt h q ts)])) = true := distinct_left hkeys
    have hk2 : distinct (keysOf us) = true := distinct_left hk1
    have hk3 : Key.place r c ∉ keysOf us := by
      rw [distinct_iff, keysOf_append] at hk1
      intro hm
      exact (List.nodup_append.1 hk1).2.2 _ hm _ (by simp [keysOf, Upd.key]) rfl
    obtain ⟨hol, hoa⟩ := atCells_spec hat
    have hpos : 0 < ts.length := by omega
    obtain ⟨xs, row, hy, hrow, hlen⟩ : ∃ xs row, tt.at q = some (.sl true h.sz xs) ∧ xs[h.i]? = some row ∧ h.c + ts.length ≤ row.length := by
      have hlast : ts.length - 1 < old.length := by omega
      have h0 := hoa (ts.length - 1) _ (List.getElem?_eq_getElem hlast)
      simp only [T.at] at h0
      cases hq : tt.at q with
      | none => rw [hq] at h0; cases h0
      | some y =>
        rw [hq] at h0
        simp only [Option.bind_some] at h0
        obtain ⟨xs, row, rfl, q1, q2⟩ := sub_some h0
        have := lt_of_getElem? q2
        exact ⟨xs, row, rfl, q1, by simp only at this; omega⟩
    refine OpOK.skip hN hok fun a w g hc hs hl => ?_
    obtain ⟨vs, hcells, hval⟩ := hrow0 E a w g hc hl hopd
    obtain ⟨g1, tk, hr⟩ := ht.at_root hc hk2 (r := .ret) (fun h => h) hcells
    have hpl1 := ht.place σ (fun _ _ _ _ h => h) hk2 hpl hk3
    have hlen0 : row0.length = ts.length := by have := ht.length; simpa using this.symm
    have hts : ∀ j x, ts[j]? = some x → Rep w g1 ⟨.ret, j, []⟩ x (vs j) := by
      intro j x hj
      have := hr j (.t x) (by simp [hj])
      cases this with | t h => exact h
    obtain ⟨b, off, n, cap, cs, el, hhd, hh, hbound, hfin⟩ := tk.core.storePath hpl1 hy hrow hlen hts
    obtain ⟨b', off', n', cap', hhd', hpv⟩ := PRep.path_cons.1 ((hp a w g hc hl).ptr_val (.inr hpl.dirty))
    have heq := (tk.keeps.ref r c hpl.ex hpl.dirty).2 q
    rw [hhd, hhd'] at heq
    cases heq
    have hlv : (a.eval v).cells.toList = (List.range ts.length).map vs := by rw [hval, hlen0]
    have hlv2 : (a.eval v).cells.size = ts.length := by rw [hval, hlen0]; simp
    have hst := run_storeAt (P := E.P) hi (b := b) (off := off + h.i * h.sz + h.c) (v := a.eval v) hh (by rw [hlv2]; exact hs1) (by rw [hlv2]; exact hbound) (fun u hu => by
      have hu' : u ∈ (List.range ts.length).map vs := by rw [← hlv]; simpa using hu
      obtain ⟨j, hj, rfl⟩ := List.mem_map.1 hu'
      have hj' : j < ts.length := by simpa using hj
      simp only [List.all_eq_true] at hs3
      exact (hts j _ (List.getElem?_eq_getElem hj')).one (hs3 _ (List.getElem_mem hj')))
    rw [hlv] at hst
    simp only [List.length_map, List.length_range] at hst
    have hex : (execOp a.eval o).run E.P w = .ok .skip (w.setRow b (cs.toList.take (off + h.i * h.sz + h.c) ++ (List.range ts.length).map vs ++ cs.toList.drop (off + h.i * h.sz + h.c + ts.length)).toArray) := by
      simp only [execOp, ho, hpv]
      simp only [Sem.run_bind, hst]
      rfl
    cases hany : ts.any T.isOwn with
    | true =>
      obtain ⟨f1, f2⟩ := hfin (fun r' j => if r' = r ∧ j = c then true else (σ.upds us).dirty r' j) (fun r' j hd => by
        by_cases e : r' = r ∧ j = c
        · simp [e] at hd
        · simpa [e] using hd) (fun _ => by simp) _ rfl
      refine ⟨_, _, hex, ?_, tk.move.trans f2, ?_⟩
      · simp only [if_true]
        rw [upds_append, upds_append, upds_cons]
        show Core E (((σ.upds us).upd (.set r c (putCells tt h q ts))).upds (dirtP r c)) _ _ _
        rw [dirt_set hpl1]
        exact f1
      · simp only [if_true]
        rw [upds_append, upds_append, upds_cons]
        show (((σ.upds us).upd (.set r c (putCells tt h q ts))).upds (dirtP r c)).isnew = _
        rw [dirt_set hpl1]
        show (Sg.setP _ r c _).isnew = _
        rw [Sg.setP_isnew]
        exact tk.isnew
    | false =>
      obtain ⟨f1, f2⟩ := hfin (σ.upds us).dirty (fun r' j hd => hd) (fun e => by rw [hany] at e; cases e) _ rfl
      refine ⟨_, _, hex, ?_, tk.move.trans f2, ?_⟩
      · simp only [Bool.false_eq_true, if_false, List.append_nil]
        rw [upds_append]
        exact f1
      · simp only [Bool.false_eq_true, if_false, List.append_nil]
        rw [upds_append]
        show (Sg.setP _ r c _).isnew = _
        rw [Sg.setP_isnew]
        exact tk.isnew
end
end Vx
