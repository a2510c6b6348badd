import Derived.Test.YtjfpbaknhaikmaaV20
namespace Vx
open Go Classical
set_option linter.unusedSimpArgs false
set_option linter.unusedVariables false

theorem skip_step {P : Program} {R : Rel} {ops : List Oper} {o : Oper} {s : St} {l : List (List Loc × List Loc)} {K : Kont} {d : Nat} {f : Ans → Rd Eff} {g : Rd Eff} (hf : ∀ an, (f an).run s.sg = g.run s.sg ∧ (f an).log s.sg = .slot d :: g.log s.sg)
    (h : g.go s [.slot d] (fin s l K)) : Stepped P R f s [] l K := by
  refine ⟨default, ?_⟩
  obtain ⟨h1, h2⟩ := go_fin h
  rw [(hf default).1, (hf default).2]
  refine ⟨h1, ?_⟩
  simpa using h2
theorem aop_step {P : Program} {R : Rel} {ops : List Oper} {o : Oper} {s : St} {l : List (List Loc × List Loc)} {K : Kont} (h : aop P R ops o s l K) : Stepped P R (ostep P R ops o) s [] l K := by
  unfold aop at h
  cases hg : o.guard with
  | none =>
    rw [hg] at h
    have e : ostep P R ops o = ostep1 P R o := by funext an; simp only [ostep, hg]
    rw [e]
    exact aop1_step h
  | some gw =>
    obtain ⟨j, want⟩ := gw
    rw [hg] at h
    simp only at h
    cases hd : (ops[j]?).bind (·.dst) with
    | none => rw [hd] at h; exact h.elim
    | some d =>
      rw [hd] at h
      simp only at h
      have e : ∀ an, ostep P R ops o an = .slot d fun sv _ _ => match sv with
          | .c (.t (.bool b)) => if b = want then ostep1 P R o an else skipOp o
          | .c (.t (.val (.tuple _))) => skipOp o
          | _ => fail := by intro an; simp only [ostep, hg, hd]; rfl
      split at h
      · rename_i b hs
        have hs' : s.sg.slot d = .c (.t (.bool b)) := hs
        by_cases hb : b = want
        · obtain ⟨an, h1, h2⟩ := aop1_step (h.1 hb)
          refine ⟨an, ?_⟩
          rw [e]
          simp only [Rd.run, Rd.log, hs', if_pos hb]
          refine ⟨h1, ?_⟩
          simpa using h2
        · refine skip_step (P := P) (R := R) (ops := ops) (o := o) (d := d) (fun an => ?_) (h.2 (by cases b <;> cases want <;> simp_all))
          rw [e]
          simp only [Rd.run, Rd.log, hs', if_neg hb, and_self]
      · rename_i hs
        have hs' : s.sg.slot d = .c (.t (.val (.tuple _))) := hs
        refine skip_step (P := P) (R := R) (ops := ops) (o := o) (d := d) (fun an => ?_) h
        rw [e]
        simp only [Rd.run, Rd.log, hs', and_self]
      · exact h.elim

/-! ## What is to be done, and its record -/
structure Task where
  i : Nat
  f : Rd Eff
  us : List Upd
  rd : List Loc
def Good : Sg → List Task → Prop
  | _, [] => True
  | σ, t :: T => ((t.f.run σ).ok ∧ (t.f.run σ).upd = t.us ∧ (∀ l ∈ t.f.log σ, l ∈ t.rd) ∧ ∀ l ∈ dlocs t.us, l ∈ t.rd) ∧ Good (σ.upds t.us) T
def after (σ : Sg) (T : List Task) : Sg := T.foldl (fun σ t => σ.upds t.us) σ
structure Indep (t u : Task) : Prop where
  ww : ∀ l, Wr t.us l → ¬ Wr u.us l
  rw : ∀ l ∈ t.rd, ¬ Wr u.us l
  wr : ∀ l ∈ u.rd, ¬ Wr t.us l

theorem aops_steps {P : Program} {R : Rel} {ops : List Oper} : ∀ {rem : List Oper} {s : St} {l : List (List Loc × List Loc)} {K : Kont} (i : Nat), aops P R ops rem s l K →
    ∃ T : List Task, Good s.sg T ∧ T.map (·.i) = List.range' i rem.length ∧ (∀ t ∈ T, ∃ o an, rem[t.i - i]? = some o ∧ i ≤ t.i ∧ t.f = ostep P R ops o an) ∧
      ∃ s', s'.sg = after s.sg T ∧ K s' ((T.map fun t => (t.rd, wlocs t.us)).reverse ++ l)
  | [], s, l, K, i, h => ⟨[], trivial, rfl, (by simp), s, rfl, h⟩
  | o :: rem, s, l, K, i, h => by
    simp only [aops] at h
    obtain ⟨an, h1, h2⟩ := aop_step h
    obtain ⟨T, t1, t2, t3, s', t4, t5⟩ := aops_steps (i + 1) h2
    let u : Task := ⟨i, ostep P R ops o an, ((ostep P R ops o an).run s.sg).upd, dlocs ((ostep P R ops o an).run s.sg).upd ++ ((ostep P R ops o an).log s.sg).reverse ++ []⟩
    refine ⟨u :: T, ⟨⟨h1, rfl, fun l hl => by simp [u, hl], fun l hl => by simp [u]; exact .inl hl⟩, ?_⟩, ?_, ?_, s', ?_, ?_⟩
    · rw [← St.upds_sg]; exact t1
    · simp [t2, List.range'_succ, u]
    · intro t ht
      rcases List.mem_cons.1 ht with e | e
      · subst e; exact ⟨o, an, by simp [u], Nat.le_refl _, rfl⟩
      · obtain ⟨o', an', q1, q2, q3⟩ := t3 t e
        exact ⟨o', an', by rw [show t.i - i = (t.i - (i + 1)) + 1 by omega]; simpa using q1, by omega, q3⟩
    · rw [t4, St.upds_sg]; rfl
    · simpa [u] using t5

theorem Good.take : ∀ {A : List Task} {t : Task} {B : List Task} {σ : Sg}, Good σ (A ++ t :: B) → (∀ a ∈ A, Indep a t) →
    ((t.f.run σ).ok ∧ (t.f.run σ).upd = t.us ∧ (∀ l ∈ t.f.log σ, l ∈ t.rd) ∧ ∀ l ∈ dlocs t.us, l ∈ t.rd) ∧ Good (σ.upds t.us) (A ++ B) ∧ after (σ.upds t.us) (A ++ B) = after σ (A ++ t :: B)
  | [], t, B, σ, h, _ => ⟨h.1, h.2, rfl⟩
  | a :: A, t, B, σ, h, hi => by
    obtain ⟨⟨a1, a2, a3, a4⟩, hA⟩ := h
    obtain ⟨⟨t1, t2, t3, t4⟩, g1, g2⟩ := Good.take hA fun b hb => hi b (by simp [hb])
    have hat := hi a (by simp)
    have hcomm : (σ.upds a.us).upds t.us = (σ.upds t.us).upds a.us := upds_comm σ hat.ww (fun l hl => hat.rw l (a4 l hl)) (fun l hl => hat.wr l (t4 l hl))
    obtain ⟨e1, e2⟩ := Rd.same t.f (σ := σ.upds a.us) (τ := σ) fun l hl => upds_frame (hat.wr l (t3 l hl))
    obtain ⟨f1, f2⟩ := Rd.same a.f (σ := σ) (τ := σ.upds t.us) fun l hl => (upds_frame (hat.rw l (a3 l hl))).symm
    refine ⟨⟨by rw [e1]; exact t1, by rw [e1]; exact t2, by rw [e2]; exact t3, t4⟩, ⟨⟨by rw [f1]; exact a1, by rw [f1]; exact a2, by rw [f2]; exact a3, a4⟩, ?_⟩, ?_⟩
    · rw [← hcomm]; exact g1
    · show after ((σ.upds t.us).upds a.us) (A ++ B) = after (σ.upds a.us) (A ++ t :: B)
      rw [← hcomm]; exact g2

/-- A task's operation is sound. -/
def Sound (E : Env) (N : Nat) (ops : Array Oper) (Q : Exit → Act → World → Prop) (t : Task) : Prop :=
  ∀ (σ : Sg) (a : Act) (w : World) (g : Gh) (K : Act → World → Prop), (t.f.run σ).ok → Core E σ a.tmps w g → a.tmps.size = N → LIM ≤ g.lim →
    (∀ a' w' g', Core E (σ.upds (t.f.run σ).upd) a'.tmps w' g' → Move w g w' g' → a'.tmps.size = N → a'.defers = a.defers → K a' w') → wpOp E.P ops Q t.i K a w

theorem seq_ok {E : Env} {N : Nat} {ops : Array Oper} {Q : Exit → Act → World → Prop} : ∀ {T : List Task} {σ : Sg} {a : Act} {w : World} {g : Gh}, Good σ T → (∀ t ∈ T, Sound E N ops Q t) → Core E σ a.tmps w g → a.tmps.size = N → LIM ≤ g.lim →
    (∀ a' w' g', Core E (after σ T) a'.tmps w' g' → Move w g w' g' → a'.tmps.size = N → a'.defers = a.defers → Q .normal a' w') → wpOps E.P ops Q (T.map (·.i)) a w
  | [], σ, a, w, g, _, _, hc, hs, hl, hK => hK a w g hc (Move.refl _ _) hs rfl
  | t :: T, σ, a, w, g, hg, hT, hc, hs, hl, hK => by
    obtain ⟨⟨h1, h2, _, _⟩, h5⟩ := hg
    rw [List.map_cons, wpOps_cons]
    refine hT t (by simp) σ a w g _ h1 hc hs hl fun a' w' g' hc' hm hs' hd => ?_
    rw [h2] at hc'
    exact seq_ok h5 (fun u hu => hT u (by simp [hu])) hc' hs' (by rw [hm.lim]; exact hl) fun a2 w2 g2 c2 m2 s2 d2 => hK a2 w2 g2 c2 (hm.trans m2) s2 (d2.trans hd)

/-! ## Any order -/
def Closed (ops : Array Oper) (listed : Array Bool) : Prop :=
  ∀ i o e, listed.getD i true = true → ops[i]? = some o → e ∈ o.after → Region.binds .any e = true → listed.getD e.on false = true
theorem listed_lt {listed : Array Bool} {i : Nat} (h : listed.getD i false = true) : i < listed.size := by
  rcases Nat.lt_or_ge i listed.size with k | k
  · exact k
  · simp [Array.getElem?_eq_none k] at h
theorem afterB_listed {ops : Array Oper} {listed : Array Bool} (hc : Closed ops listed) : ∀ (f i j : Nat), (∀ o e, ops[i]? = some o → e ∈ o.after → Region.binds .any e = true → listed.getD e.on false = true) → afterB ops.toList f i j = true → listed.getD j false = true
  | 0, i, j, _, h => by simp [afterB] at h
  | f + 1, i, j, hi, h => by
    simp only [afterB] at h
    split at h
    · rename_i o ho
      have ho' : ops[i]? = some o := by simpa using ho
      simp only [List.any_eq_true, Bool.and_eq_true, Bool.or_eq_true, beq_iff_eq] at h
      obtain ⟨e, he, hb, h⟩ := h
      have hl := hi o e ho' (by simpa using he) hb
      rcases h with h | h
      · rw [← h]; exact hl
      · refine afterB_listed hc f e.on j (fun o' e' ho'' he' hb' => hc e.on o' e' ?_ ho'' he' hb') h
        have := listed_lt hl
        simp only [Array.getD_eq_getD_getElem?, Array.getElem?_eq_getElem this, Option.getD_some] at hl ⊢
        exact hl
    · cases h

theorem any_ok {E : Env} {N : Nat} {ops : Array Oper} {Q : Exit → Act → World → Prop} (hdown : ∀ (i : Nat) (o : Oper), ops[i]? = some o → ∀ e ∈ o.after, Region.binds .any e = true → e.on < i) : ∀ (fuel : Nat) (listed : Array Bool) (T : List Task) (σ : Sg) (a : Act) (w : World) (g : Gh),
    listed.size = ops.size → Closed ops listed → T.length ≤ fuel → (T.map (·.i)).Pairwise (· < ·) → (∀ i, (∃ t ∈ T, t.i = i) ↔ listed.getD i true = false) →
    Good σ T → (T.Pairwise fun t u => afterB ops.toList ops.size u.i t.i = false → Indep t u) → (∀ t ∈ T, Sound E N ops Q t) → Core E σ a.tmps w g → a.tmps.size = N → LIM ≤ g.lim →
    (∀ a' w' g', Core E (after σ T) a'.tmps w' g' → Move w g w' g' → a'.tmps.size = N → a'.defers = a.defers → Q .normal a' w') → wpAny E.P .any ops Q fuel listed a w := by
  intro fuel
  induction fuel with
  | zero =>
    intro listed T σ a w g hsz hcl hlen hsort hT hg hind hs hc hN hl hK
    have : T = [] := List.length_eq_zero_iff.1 (by omega)
    subst this
    refine ⟨List.eq_nil_iff_forall_not_mem.2 fun j hj => ?_, hK a w g hc (Move.refl _ _) hN rfl⟩
    obtain ⟨t, ht, _⟩ := (hT j).2 (mem_ready.1 hj).1
    cases ht
  | succ fuel ih =>
    intro listed T σ a w g hsz hcl hlen hsort hT hg hind hs hc hN hl hK
    refine ⟨fun hr => ?_, fun i hi => ?_⟩
    · cases T with
      | nil => exact hK a w g hc (Move.refl _ _) hN rfl
      | cons t T =>
        exfalso
        have hti := (hT t.i).1 ⟨t, by simp, rfl⟩
        have hlt : t.i < ops.size := by
          rcases Nat.lt_or_ge t.i listed.size with k | k
          · omega
          · simp [Array.getElem?_eq_none k] at hti
        have : t.i ∈ Region.ready .any ops listed := by
          refine mem_ready.2 ⟨hti, ops[t.i], Array.getElem?_eq_getElem hlt, fun e he hb => ?_⟩
          have hlow := hdown t.i _ (Array.getElem?_eq_getElem hlt) e he hb
          have hel : e.on < listed.size := by omega
          cases hle : listed.getD e.on false with
          | true => rfl
          | false =>
            have : listed.getD e.on true = false := by
              simp only [Array.getD_eq_getD_getElem?, Array.getElem?_eq_getElem hel, Option.getD_some] at hle ⊢
              exact hle
            obtain ⟨u, hu, hue⟩ := (hT e.on).2 this
            rcases List.mem_cons.1 hu with q | q
            · subst q; omega
            · simp only [List.map_cons, List.pairwise_cons] at hsort
              have := hsort.1 u.i (List.mem_map.2 ⟨u, q, rfl⟩)
              omega
        rw [hr] at this
        cases this
    · obtain ⟨h0, o, ho, hall⟩ := mem_ready.1 hi
      obtain ⟨t, ht, hti⟩ := (hT i).2 h0
      subst hti
      obtain ⟨A, B, rfl⟩ := List.append_of_mem ht
      have hnot : ∀ u ∈ A, Indep u t := by
        intro u hu
        rw [List.pairwise_append] at hind
        refine hind.2.2 u hu t (by simp) ?_
        cases hab : afterB ops.toList ops.size t.i u.i with
        | false => rfl
        | true =>
          exfalso
          have := afterB_listed hcl _ t.i u.i (fun o' e ho' he hb => by rw [ho] at ho'; cases ho'; exact hall e he hb) hab
          have h2 := (hT u.i).1 ⟨u, by simp [hu], rfl⟩
          have hlt := listed_lt this
          simp only [Array.getD_eq_getD_getElem?, Array.getElem?_eq_getElem hlt, Option.getD_some] at this h2
          rw [this] at h2
          cases h2
      obtain ⟨⟨t1, t2, _, _⟩, g1, g2⟩ := hg.take hnot
      refine hs t ht σ a w g _ t1 hc hN hl fun a' w' g' hc' hm hs' hd => ?_
      rw [t2] at hc'
      have hsub : (A ++ B).Sublist (A ++ t :: B) := List.Sublist.append_left (List.sublist_cons_self _ _) _
      have hlti : t.i < listed.size := by
        rcases Nat.lt_or_ge t.i listed.size with k | k
        · exact k
        · simp [Array.getElem?_eq_none k] at h0
      refine ih (listed.setIfInBounds t.i true) (A ++ B) (σ.upds t.us) a' w' g' (by simpa using hsz) ?_ (by simp at hlen ⊢; omega) (hsort.sublist (hsub.map _)) (fun j => ?_) g1 (hind.sublist hsub) (fun u hu => hs u (hsub.subset hu)) hc' hs' (by rw [hm.lim]; exact hl) (fun a2 w2 g2' c2 m2 s2 d2 => hK a2 w2 g2' (by rw [← g2]; exact c2) (hm.trans m2) s2 (d2.trans hd))
      · intro j o' e hj ho' he hb
        by_cases hjt : t.i = j
        · subst hjt
          rw [ho] at ho'
          cases ho'
          exact getD_set_true (hall e he hb)
        · rw [getD_set_ne true hjt] at hj
          exact getD_set_true (hcl j o' e hj ho' he hb)
      · by_cases hjt : t.i = j
        · subst hjt
          constructor
          · rintro ⟨u, hu, e⟩
            exfalso
            rw [List.map_append, List.map_cons, List.pairwise_append] at hsort
            rcases List.mem_append.1 hu with q | q
            · have := hsort.2.2 u.i (List.mem_map.2 ⟨u, q, rfl⟩) t.i (by simp)
              omega
            · have := (List.pairwise_cons.1 hsort.2.1).1 u.i (List.mem_map.2 ⟨u, q, rfl⟩)
              omega
          · intro h
            simp [hlti] at h
        · rw [getD_set_ne true hjt, ← hT j]
          constructor
          · rintro ⟨u, hu, e⟩
            exact ⟨u, hsub.subset hu, e⟩
          · rintro ⟨u, hu, e⟩
            refine ⟨u, ?_, e⟩
            simp only [List.mem_append, List.mem_cons] at hu ⊢
            rcases hu with q | q | q
            · exact .inl q
            · subst q; exact absurd e hjt
            · exact .inr q
end Vx
