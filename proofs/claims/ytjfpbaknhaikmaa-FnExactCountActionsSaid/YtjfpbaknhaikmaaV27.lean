import Derived.Test.YtjfpbaknhaikmaaV26
namespace Vx
open Go Classical
set_option linter.unusedSimpArgs false
set_option linter.unusedVariables false

theorem ResT.lens {P : Program} {σ : Sg} {ts : List ResultVar} {svs : List SV} {l l' : List C} {us : List Upd} (h : ResT P σ ts svs l l' us) : svs.length = ts.length ∧ ∀ i, (posOf i svs).length = l'.length := by
  induction h with
  | nil => exact ⟨rfl, fun _ => rfl⟩
  | c hy ht h ih => exact ⟨by simp [ih.1], fun i => by simp [posOf, ih.2]⟩
  | agg hy ht h ih => exact ⟨by simp [ih.1], fun i => by simp [posOf, ih.2]⟩
theorem F2.length {α β : Type} {R : α → β → Prop} {l : List α} {m : List β} (h : F2 R l m) : l.length = m.length := by
  induction h <;> simp_all
theorem posOf_sorted : ∀ (svs : List SV) (i : Nat), (∀ x ∈ svs, ∀ row, x = .agg row → row.length ≤ 64) → (posOf i svs).Pairwise (· < ·) ∧ ∀ p ∈ posOf i svs, 64 * i ≤ p
  | [], i, _ => ⟨.nil, by simp [posOf]⟩
  | x :: svs, i, h => by
    obtain ⟨h1, h2⟩ := posOf_sorted svs (i + 1) fun y hy => h y (by simp [hy])
    cases x with
    | c y =>
      simp only [posOf]
      refine ⟨List.pairwise_cons.2 ⟨fun p hp => by have := h2 p hp; omega, h1⟩, fun p hp => ?_⟩
      rcases List.mem_cons.1 hp with e | e
      · omega
      · have := h2 p e; omega
    | agg row =>
      have hl := h _ (by simp) row rfl
      simp only [posOf]
      refine ⟨List.pairwise_append.2 ⟨List.pairwise_lt_range', h1, fun p hp q hq => ?_⟩, fun p hp => ?_⟩
      · have := h2 q hq
        have := List.mem_range'_1.1 hp
        omega
      · rcases List.mem_append.1 hp with e | e
        · have := List.mem_range'_1.1 e; omega
        · have := h2 p e; omega
    | tup l =>
      simp only [posOf]
      exact ⟨h1, fun p hp => by have := h2 p hp; omega⟩
theorem posOf_one (x : SV) : (posOf 0 [x]).Pairwise (· < ·) := by
  cases x with
  | c y => simp [posOf]
  | agg row => simp only [posOf, List.append_nil]; exact List.pairwise_lt_range'
  | tup l => simp [posOf]

theorem CRep.dirt {w : World} {g : Gh} {d d' : Dirt} {a : CA} {x : C} {v : Value} (h : CRep w g d a x v) (hx : x.data = true) : CRep w g d' a x v := by
  cases h with
  | t h => exact .t h
  | _ => cases hx

theorem Core.out {E : Env} {s : St} {tmps : Array Value} {w : World} {g : Gh} (hc : Core E s.sg tmps w g) {out : List AR} (h : outOK 0 out s) : Core E (entrySt [] out).sg #[] w g := by
  have hspec : ∀ (l : List AR) (n : Nat), outOK n l s → (∀ k row, lk k (obsOf n l) = some row → lk k s.ob = some row ∧ row.all C.data = true) ∧ (∀ k x, lk k (visOf n l) = some x → lk k s.ob = none ∧ lk k s.vi = some x ∧ x.data = true) ∧
      (∀ k es, lk k (mpsOf n l) = some es → lk k s.mp = some es) := by
    intro l
    induction l with
    | nil => intro n _; simp [obsOf, visOf, mpsOf, lk]
    | cons a l ih =>
      intro n h
      cases a with
      | box row =>
        obtain ⟨h1, h2, h3⟩ := h
        obtain ⟨i1, i2, i3⟩ := ih (n + 1) h3
        refine ⟨fun k r hk => ?_, i2, i3⟩
        simp only [obsOf, lk] at hk
        split at hk
        · rename_i e; subst e; cases hk; exact ⟨h1, h2⟩
        · exact i1 k r hk
      | virt x =>
        obtain ⟨h1, h2, h3⟩ := h
        obtain ⟨i1, i2, i3⟩ := ih (n + 1) h3
        refine ⟨i1, fun k r hk => ?_, i3⟩
        simp only [visOf, lk] at hk
        split at hk
        · rename_i e; subst e; cases hk; exact ⟨h1, h2, rfl⟩
        · exact i2 k r hk
      | map es =>
        obtain ⟨h1, h3⟩ := h
        obtain ⟨i1, i2, i3⟩ := ih (n + 1) h3
        refine ⟨i1, i2, fun k r hk => ?_⟩
        simp only [mpsOf, lk] at hk
        split at hk
        · rename_i e; subst e; cases hk; exact h1
        · exact i3 k r hk
  obtain ⟨h1, h2, h3⟩ := hspec out 0 h
  have hcell : ∀ k c, ((entrySt [] out).cell k c).data = true := by
    intro k c
    simp only [St.cell, entrySt]
    cases ho : lk k (obsOf 0 out) with
    | some row =>
      have := (h1 k row ho).2
      simp only [List.all_eq_true] at this
      simp only [List.getD]
      cases hr : row[c]? with
      | none => rfl
      | some x => exact this x (List.mem_of_getElem? hr)
    | none =>
      cases hv : lk k (visOf 0 out) with
      | some x =>
        simp only
        split
        · exact (h2 k x hv).2.2
        · rfl
      | none => rfl
  refine ⟨fun n => .c (.t (.fro .top)), fun n => rfl, fun n r hr => ?_, fun k c r hr => ?_, fun k kd hk => ?_, fun k es hk => ?_, hc.glob, hc.size⟩
  · have hr : r ∈ ((entrySt [] out).slot n).roots := hr
    rw [entry_slot] at hr
    simp [SV.roots, C.roots] at hr
  · have hr : r ∈ ((entrySt [] out).cell k c).roots := hr
    have hd := hcell k c
    generalize (entrySt [] out).cell k c = x at hr hd
    cases x with
    | t x => simp [C.roots] at hr
    | _ => cases hd
  · have hk : (entrySt [] out).kind k = some kd := hk
    simp only [St.kind, entrySt] at hk
    cases ho : lk k (obsOf 0 out) with
    | some row =>
      rw [ho] at hk
      cases hk
      obtain ⟨q1, q2⟩ := h1 k row ho
      have base := hc.objs k (.box row.length) (by simp [St.sg, St.kind, q1])
      obtain ⟨cs, el, b1, b2, b3, b4, b5⟩ := base
      refine ⟨cs, el, b1, b2, b3, b4, fun c hcl => ?_⟩
      obtain ⟨u, u1, u2⟩ := b5 c hcl
      refine ⟨u, u1, ?_⟩
      have e : (entrySt [] out).sg.cell k c = s.sg.cell k c := by simp [St.sg, St.cell, entrySt, ho, q1]
      rw [e]
      refine u2.dirt ?_
      rw [← e]; exact hcell k c
    | none =>
      rw [ho] at hk
      cases hv : lk k (visOf 0 out) with
      | none => rw [hv] at hk; cases hk
      | some x =>
        rw [hv] at hk
        cases hk
        obtain ⟨q1, q2, q3⟩ := h2 k x hv
        obtain ⟨u, hu⟩ := hc.objs k .virt (by simp [St.sg, St.kind, q1, q2])
        have e : (entrySt [] out).sg.cell k 0 = s.sg.cell k 0 := by simp [St.sg, St.cell, entrySt, ho, q1, hv, q2]
        refine ⟨u, ?_⟩
        rw [e]
        refine hu.dirt ?_
        rw [← e]; exact hcell k 0
  · exact hc.maps k es (h3 k es hk)

theorem SVRep.dirt {w : World} {g : Gh} {d d' : Dirt} {r : Root} {n : Nat} {x : SV} {v : Value} (h : SVRep w g d r n x v) (hx : x.data = true) : SVRep w g d' r n x v := by
  have one : ∀ {n : Nat} {x : SV} {v : Value}, SVRep w g d r n x v → (match x with | .c x => x.data | .agg row => row.all C.data | .tup _ => false) = true → SVRep w g d' r n x v := by
    intro n x v h hx
    cases h with
    | c h => exact .c (h.dirt hx)
    | agg vs h =>
      simp only [List.all_eq_true] at hx
      exact .agg vs fun j x hj => (h j x hj).dirt (hx x (List.mem_of_getElem? hj))
    | tup vs h => cases hx
  cases h with
  | c h => exact one (.c h) hx
  | agg vs h => exact one (.agg vs h) hx
  | tup vs h =>
    simp only [SV.data, List.all_eq_true] at hx
    refine .tup vs fun j x hj => one (h j x hj) ?_
    have := hx x (List.mem_of_getElem? hj)
    cases x with
    | c x => exact this
    | agg row => simp only [Bool.and_eq_true] at this; exact this.1
    | tup l => cases this

theorem fn_returns {E : Env} {f : Nat} {fn : Func} {c : Code} {keep : List Nat} {fa : List SV} {rs : List AR} {res : SV} {out : List AR} (hmix : E.P.follows .mixedOrders = true) (hstep : Step1OK E fn.ntmps (Returns E))
    (hf : E.P.funcs[f]? = some fn) (hb : fn.body = some c) (hname : (fn.name == "runtime.NumGoroutine") = false) (hok : okCode fn.ntmps c = true) (hfa : fa.length ≤ fn.ntmps) (hd : res.data = true)
    (h : awp E.P (Returns E) keep c (fun ax s => match ax with | .exit _ => False | _ => fnPost E.P fn.results.toList res out s) (entrySt fa rs)) : Returns E f fa rs res out := by
  have hname' : ¬ fn.name = "runtime.NumGoroutine" := by simpa using hname
  refine ⟨hd, fun vals w => by simp [callFunc, hf, hb, hname'], fun w g vals hl hsz hc => ?_⟩
  have hc0 : Core E (entrySt fa rs).sg (vals ++ Array.replicate (fn.ntmps - vals.size) undef) w g := by
    refine Core.step hc (Keeps.refl _ _ _ _) (fun n => .inl ⟨rfl, rfl, ?_, fun c => Still.refl _ _ _ _⟩) (fun k kd h => .inl ⟨h, fun c => ⟨rfl, Still.refl _ _ _ _⟩, fun _ h => ⟨h, rfl⟩⟩) (fun k c => .inl rfl) (fun k es h => .inl ⟨h, fun _ h => ⟨h, rfl⟩⟩) (fun _ h => h) (fun b _ => ⟨rfl, rfl⟩) (Nat.le_refl _)
    simp only [Array.getD_eq_getD_getElem?]
    rcases Nat.lt_or_ge n vals.size with q | q
    · rw [Array.getElem?_append_left q]
    · rw [Array.getElem?_append_right q, Array.getElem?_eq_none q]
      rcases Nat.lt_or_ge (n - vals.size) (fn.ntmps - vals.size) with q2 | q2
      · simp [q2]
      · simp [Array.getElem?_eq_none, q2]
  refine calls_of_wp hf hb (wp_mono (awp_ok hmix hstep c _ (entrySt fa rs) { tmps := vals ++ Array.replicate (fn.ntmps - vals.size) undef, defers := [] } w g hok h hc0 (by simp; omega) hl _ w g (Move.refl _ _) rfl) fun e a' w' hq => ?_)
  obtain ⟨ax, s, g', rfl, hq, hc1, hm, hs1, hd1⟩ := hq
  have hpost : ∀ (hq : fnPost E.P fn.results.toList res out s), a'.defers = [] ∧ ∃ v, (results fn a'.tmps).run E.P w' = .ok v w' ∧ ∃ g', SVRep w' g' noDirt .ret 0 res v ∧ Core E (entrySt [] out).sg #[] w' g' ∧ Move w g w' g' := by
    intro hq
    unfold fnPost at hq
    rw [Rd.go_iff] at hq
    obtain ⟨hq1, hq2⟩ := hq
    obtain ⟨svs, l, l', us, hR, he⟩ := resRd_ok hq1
    rw [he] at hq1 hq2
    by_cases hdi : distinct (keysOf us) = true
    · rw [if_pos hdi] at hq1 hq2
      have hpack : pack svs = res := hq1
      have hout : outOK 0 out (s.upds us) := hq2
      obtain ⟨hl1, hl2⟩ := hR.lens
      obtain ⟨vsL, vsR, vr, v1, v2, v3⟩ := hR.vals hc1
      have vlen : vsR.length = svs.length := by rw [hl1]; exact vr.length.symm
      have htk := hR.tk
      let i0 : Nat := match svs with | [_] => 0 | _ => 1
      have hsort : (posOf i0 svs).Pairwise (· < ·) := by
        rcases svs with _ | ⟨x, _ | ⟨y, svs⟩⟩
        · exact .nil
        · exact posOf_one x
        · refine (posOf_sorted _ _ fun z hz row hrow => ?_).1
          have hp : (SV.tup (x :: y :: svs)).data = true := by
            have : pack (x :: y :: svs) = .tup (x :: y :: svs) := rfl
            rw [← this, hpack]; exact hd
          simp only [SV.data, List.all_eq_true] at hp
          have := hp z hz
          subst hrow
          simp only [Bool.and_eq_true, decide_eq_true_eq] at this
          exact this.2
      have hpl : (posOf i0 svs).length = l.length := by rw [hl2, htk.length]
      obtain ⟨g2, tk, hcells⟩ := htk.core s.sg g' hc1 rfl rfl (fun _ _ _ _ h => h) hdi (fun j => ⟨.ret, (posOf i0 svs).getD j 0, []⟩) (fun j => vsL.getD j undef) (fun _ h => h) (fun i j hij hjl => by
        refine cell_apart _ ?_ _ _
        have hi' : i < (posOf i0 svs).length := by omega
        have hj' : j < (posOf i0 svs).length := by omega
        have := List.pairwise_iff_getElem.1 hsort i j hi' hj' hij
        simp only [List.getD, List.getElem?_eq_getElem hi', List.getElem?_eq_getElem hj', Option.getD_some]
        omega) (fun j x hj => by
        have hlt := lt_of_getElem? hj
        have hlt' : j < vsL.length := by omega
        refine v2 j x _ hj ?_
        simp [List.getD, List.getElem?_eq_getElem hlt'])
      have hparts := v3 g2 s.sg.dirty i0 (fun j x u p q1 q2 q3 => by
        have := hcells j x q1
        simp only [List.getD, q2, q3, Option.getD_some] at this
        exact this)
      refine ⟨hd1, packV vsR, run_results vr, g2, ?_, Core.out (s := s.upds us) (by rw [St.upds_sg]; exact tk.core) hout, hm.trans tk.move⟩
      refine SVRep.dirt (d := s.sg.dirty) ?_ hd
      rcases svs with _ | ⟨x, _ | ⟨y, svs⟩⟩
      · have : vsR = [] := List.length_eq_zero_iff.1 vlen
        subst this
        rw [← hpack]
        exact .tup (fun _ => undef) (by simp)
      · rcases vsR with _ | ⟨t, _ | ⟨u, vsR⟩⟩
        · cases vlen
        · have := hparts 0 x t rfl rfl
          rw [← hpack]
          exact this
        · simp at vlen
      · rcases vsR with _ | ⟨t, _ | ⟨u, vsR⟩⟩
        · cases vlen
        · simp at vlen
        · rw [← hpack]
          have := SVRep.tup (w := w') (g := g2) (d := s.sg.dirty) (r := .ret) (n := 0) (l := x :: y :: svs) (fun j => (t :: u :: vsR).getD j undef) (fun j z hj => by
            have hlt := lt_of_getElem? hj
            have hlt2 : j < (t :: u :: vsR).length := by omega
            have := hparts j z (t :: u :: vsR)[j] hj (List.getElem?_eq_getElem hlt2)
            simp only [List.getD, List.getElem?_eq_getElem hlt2, Option.getD_some]
            rw [show 0 + 64 * (j + 1) = 64 * (1 + j) by omega]
            exact this)
          have e : ((List.range (x :: y :: svs).length).map fun j => (t :: u :: vsR).getD j undef).toArray = (t :: u :: vsR).toArray := by
            congr 1
            apply List.ext_getElem?
            intro j
            rcases Nat.lt_or_ge j (t :: u :: vsR).length with q | q
            · have q' : j < (x :: y :: svs).length := by omega
              rw [List.getElem?_map, List.getElem?_range q', List.getElem?_eq_getElem q]
              simp only [Option.map_some, List.getD, List.getElem?_eq_getElem q, Option.getD_some]
            · have q' : (x :: y :: svs).length ≤ j := by omega
              rw [List.getElem?_eq_none (by simpa using q'), List.getElem?_eq_none q]
          rw [e] at this
          exact this
    · rw [if_neg hdi] at hq1; exact hq1.elim
  cases ax with
  | normal => exact hpost hq
  | ret => exact hpost hq
  | exit id => exact hq.elim
end Vx
