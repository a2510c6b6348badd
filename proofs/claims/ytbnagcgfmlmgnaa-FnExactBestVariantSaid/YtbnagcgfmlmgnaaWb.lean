import Derived.Test.YtbnagcgfmlmgnaaWa
import Derived.Great.BuildSlice
import Derived.Laws.BytesString
import Derived.ArgAppend
/- An abstract machine over data for this translation, part 2 of 4: what it reads and writes stands for what the program does. No condition. -/
set_option linter.unusedVariables false
set_option linter.unusedSimpArgs false
namespace Vx
open Go Classical
set_option linter.unusedSimpArgs false
set_option linter.unusedVariables false

theorem skip_step {P : Program} {R : Rel} {ops : List Oper} {o : Oper} {s : St} {l : List (List Loc × List Loc)} {K : Kont} {d : Nat} {f : Ans → Rd Eff} {g : Rd Eff} (hf : ∀ an, (f an).run s.sg = g.run s.sg ∧ (f an).log s.sg = .slot d :: g.log s.sg)
    (h : g.go s [.slot d] (fin s l K)) : Stepped P R f s [] l K := by
  refine ⟨default, ?_⟩
  obtain ⟨h1, h2⟩ := go_fin h
  rw [(hf default).1, (hf default).2]
  refine ⟨h1, ?_⟩
  simpa using h2
theorem aop_step {P : Program} {R : Rel} {ops : List Oper} {o : Oper} {s : St} {l : List (List Loc × List Loc)} {K : Kont} (h : aop P R ops o s l K) : Stepped P R (ostep P R ops o) s [] l K := by
  unfold aop at h
  cases hg : o.guard with
  | none =>
    rw [hg] at h
    have e : ostep P R ops o = ostep1 P R o := by funext an; simp only [ostep, hg]
    rw [e]
    exact aop1_step h
  | some gw =>
    obtain ⟨j, want⟩ := gw
    rw [hg] at h
    simp only at h
    cases hd : (ops[j]?).bind (·.dst) with
    | none => rw [hd] at h; exact h.elim
    | some d =>
      rw [hd] at h
      simp only at h
      have e : ∀ an, ostep P R ops o an = .slot d fun sv _ _ => match sv with
          | .c (.t (.bool b)) => if b = want then ostep1 P R o an else skipOp o
          | .c (.t (.val (.tuple _))) => skipOp o
          | _ => fail := by intro an; simp only [ostep, hg, hd] <;> rfl
      split at h
      · rename_i b hs
        have hs' : s.sg.slot d = .c (.t (.bool b)) := hs
        by_cases hb : b = want
        · obtain ⟨an, h1, h2⟩ := aop1_step (h.1 hb)
          refine ⟨an, ?_⟩
          rw [e]
          simp only [Rd.run, Rd.log, hs', if_pos hb]
          refine ⟨h1, ?_⟩
          simpa using h2
        · refine skip_step (P := P) (R := R) (ops := ops) (o := o) (d := d) (fun an => ?_) (h.2 (by cases b <;> cases want <;> simp_all))
          rw [e]
          simp only [Rd.run, Rd.log, hs', if_neg hb, and_self]
      · rename_i hs
        have hs' : s.sg.slot d = .c (.t (.val (.tuple _))) := hs
        refine skip_step (P := P) (R := R) (ops := ops) (o := o) (d := d) (fun an => ?_) h
        rw [e]
        simp only [Rd.run, Rd.log, hs', and_self]
      · exact h.elim

/-! ## What is to be done, and its record -/
structure Task where
  i : Nat
  f : Rd Eff
  us : List Upd
  rd : List Loc
def Good : Sg → List Task → Prop
  | _, [] => True
  | σ, t :: T => ((t.f.run σ).ok ∧ (t.f.run σ).upd = t.us ∧ (∀ l ∈ t.f.log σ, l ∈ t.rd) ∧ ∀ l ∈ dlocs t.us, l ∈ t.rd) ∧ Good (σ.upds t.us) T
def after (σ : Sg) (T : List Task) : Sg := T.foldl (fun σ t => σ.upds t.us) σ
structure Indep (t u : Task) : Prop where
  ww : ∀ l, Wr t.us l → ¬ Wr u.us l
  rw : ∀ l ∈ t.rd, ¬ Wr u.us l
  wr : ∀ l ∈ u.rd, ¬ Wr t.us l

theorem aops_steps {P : Program} {R : Rel} {ops : List Oper} : ∀ {rem : List Oper} {s : St} {l : List (List Loc × List Loc)} {K : Kont} (i : Nat), aops P R ops rem s l K →
    ∃ T : List Task, Good s.sg T ∧ T.map (·.i) = List.range' i rem.length ∧ (∀ t ∈ T, ∃ o an, rem[t.i - i]? = some o ∧ i ≤ t.i ∧ t.f = ostep P R ops o an) ∧
      ∃ s', s'.sg = after s.sg T ∧ K s' ((T.map fun t => (t.rd, wlocs t.us)).reverse ++ l)
  | [], s, l, K, i, h => ⟨[], trivial, rfl, (by simp), s, rfl, h⟩
  | o :: rem, s, l, K, i, h => by
    simp only [aops] at h
    obtain ⟨an, h1, h2⟩ := aop_step h
    obtain ⟨T, t1, t2, t3, s', t4, t5⟩ := aops_steps (i + 1) h2
    let u : Task := ⟨i, ostep P R ops o an, ((ostep P R ops o an).run s.sg).upd, dlocs ((ostep P R ops o an).run s.sg).upd ++ ((ostep P R ops o an).log s.sg).reverse ++ []⟩
    refine ⟨u :: T, ⟨⟨h1, rfl, fun l hl => by simp [u, hl], fun l hl => by simp [u]; exact .inl hl⟩, ?_⟩, ?_, ?_, s', ?_, ?_⟩
    · rw [← St.upds_sg]; exact t1
    · simp [t2, List.range'_succ, u]
    · intro t ht
      rcases List.mem_cons.1 ht with e | e
      · subst e; exact ⟨o, an, by simp [u], Nat.le_refl _, rfl⟩
      · obtain ⟨o', an', q1, q2, q3⟩ := t3 t e
        exact ⟨o', an', by rw [show t.i - i = (t.i - (i + 1)) + 1 by omega]; simpa using q1, by omega, q3⟩
    · rw [t4, St.upds_sg]; rfl
    · simpa [u] using t5

theorem Good.take : ∀ {A : List Task} {t : Task} {B : List Task} {σ : Sg}, Good σ (A ++ t :: B) → (∀ a ∈ A, Indep a t) →
    ((t.f.run σ).ok ∧ (t.f.run σ).upd = t.us ∧ (∀ l ∈ t.f.log σ, l ∈ t.rd) ∧ ∀ l ∈ dlocs t.us, l ∈ t.rd) ∧ Good (σ.upds t.us) (A ++ B) ∧ after (σ.upds t.us) (A ++ B) = after σ (A ++ t :: B)
  | [], t, B, σ, h, _ => ⟨h.1, h.2, rfl⟩
  | a :: A, t, B, σ, h, hi => by
    obtain ⟨⟨a1, a2, a3, a4⟩, hA⟩ := h
    obtain ⟨⟨t1, t2, t3, t4⟩, g1, g2⟩ := Good.take hA fun b hb => hi b (by simp [hb])
    have hat := hi a (by simp)
    have hcomm : (σ.upds a.us).upds t.us = (σ.upds t.us).upds a.us := upds_comm σ hat.ww (fun l hl => hat.rw l (a4 l hl)) (fun l hl => hat.wr l (t4 l hl))
    obtain ⟨e1, e2⟩ := Rd.same t.f (σ := σ.upds a.us) (τ := σ) fun l hl => upds_frame (hat.wr l (t3 l hl))
    obtain ⟨f1, f2⟩ := Rd.same a.f (σ := σ) (τ := σ.upds t.us) fun l hl => (upds_frame (hat.rw l (a3 l hl))).symm
    refine ⟨⟨by rw [e1]; exact t1, by rw [e1]; exact t2, by rw [e2]; exact t3, t4⟩, ⟨⟨by rw [f1]; exact a1, by rw [f1]; exact a2, by rw [f2]; exact a3, a4⟩, ?_⟩, ?_⟩
    · rw [← hcomm]; exact g1
    · show after ((σ.upds t.us).upds a.us) (A ++ B) = after (σ.upds a.us) (A ++ t :: B)
      rw [← hcomm]; exact g2

/-- A task's operation is sound. -/
def Sound (E : Env) (N : Nat) (ops : Array Oper) (Q : Exit → Act → World → Prop) (t : Task) : Prop :=
  ∀ (σ : Sg) (a : Act) (w : World) (g : Gh) (K : Act → World → Prop), (t.f.run σ).ok → Core E σ a.tmps w g → a.tmps.size = N → LIM ≤ g.lim →
    (∀ a' w' g', Core E (σ.upds (t.f.run σ).upd) a'.tmps w' g' → Move w g w' g' → a'.tmps.size = N → a'.defers = a.defers → K a' w') → wpOp E.P ops Q t.i K a w

theorem seq_ok {E : Env} {N : Nat} {ops : Array Oper} {Q : Exit → Act → World → Prop} : ∀ {T : List Task} {σ : Sg} {a : Act} {w : World} {g : Gh}, Good σ T → (∀ t ∈ T, Sound E N ops Q t) → Core E σ a.tmps w g → a.tmps.size = N → LIM ≤ g.lim →
    (∀ a' w' g', Core E (after σ T) a'.tmps w' g' → Move w g w' g' → a'.tmps.size = N → a'.defers = a.defers → Q .normal a' w') → wpOps E.P ops Q (T.map (·.i)) a w
  | [], σ, a, w, g, _, _, hc, hs, hl, hK => hK a w g hc (Move.refl _ _) hs rfl
  | t :: T, σ, a, w, g, hg, hT, hc, hs, hl, hK => by
    obtain ⟨⟨h1, h2, _, _⟩, h5⟩ := hg
    rw [List.map_cons, wpOps_cons]
    refine hT t (by simp) σ a w g _ h1 hc hs hl fun a' w' g' hc' hm hs' hd => ?_
    rw [h2] at hc'
    exact seq_ok h5 (fun u hu => hT u (by simp [hu])) hc' hs' (by rw [hm.lim]; exact hl) fun a2 w2 g2 c2 m2 s2 d2 => hK a2 w2 g2 c2 (hm.trans m2) s2 (d2.trans hd)

/-! ## Any order -/
def Closed (ops : Array Oper) (listed : Array Bool) : Prop :=
  ∀ i o e, listed.getD i true = true → ops[i]? = some o → e ∈ o.after → Region.binds .any e = true → listed.getD e.on false = true
theorem listed_lt {listed : Array Bool} {i : Nat} (h : listed.getD i false = true) : i < listed.size := by
  rcases Nat.lt_or_ge i listed.size with k | k
  · exact k
  · simp [Array.getElem?_eq_none k] at h
theorem afterB_listed {ops : Array Oper} {listed : Array Bool} (hc : Closed ops listed) : ∀ (f i j : Nat), (∀ o e, ops[i]? = some o → e ∈ o.after → Region.binds .any e = true → listed.getD e.on false = true) → afterB ops.toList f i j = true → listed.getD j false = true
  | 0, i, j, _, h => by simp [afterB] at h
  | f + 1, i, j, hi, h => by
    simp only [afterB] at h
    split at h
    · rename_i o ho
      have ho' : ops[i]? = some o := by simpa using ho
      simp only [List.any_eq_true, Bool.and_eq_true, Bool.or_eq_true, beq_iff_eq] at h
      obtain ⟨e, he, hb, h⟩ := h
      have hl := hi o e ho' (by simpa using he) hb
      rcases h with h | h
      · rw [← h]; exact hl
      · refine afterB_listed hc f e.on j (fun o' e' ho'' he' hb' => hc e.on o' e' ?_ ho'' he' hb') h
        have := listed_lt hl
        simp only [Array.getD_eq_getD_getElem?, Array.getElem?_eq_getElem this, Option.getD_some] at hl ⊢
        exact hl
    · cases h

theorem any_ok {E : Env} {N : Nat} {ops : Array Oper} {Q : Exit → Act → World → Prop} (hdown : ∀ (i : Nat) (o : Oper), ops[i]? = some o → ∀ e ∈ o.after, Region.binds .any e = true → e.on < i) : ∀ (fuel : Nat) (listed : Array Bool) (T : List Task) (σ : Sg) (a : Act) (w : World) (g : Gh),
    listed.size = ops.size → Closed ops listed → T.length ≤ fuel → (T.map (·.i)).Pairwise (· < ·) → (∀ i, (∃ t ∈ T, t.i = i) ↔ listed.getD i true = false) →
    Good σ T → (T.Pairwise fun t u => afterB ops.toList ops.size u.i t.i = false → Indep t u) → (∀ t ∈ T, Sound E N ops Q t) → Core E σ a.tmps w g → a.tmps.size = N → LIM ≤ g.lim →
    (∀ a' w' g', Core E (after σ T) a'.tmps w' g' → Move w g w' g' → a'.tmps.size = N → a'.defers = a.defers → Q .normal a' w') → wpAny E.P .any ops Q fuel listed a w := by
  intro fuel
  induction fuel with
  | zero =>
    intro listed T σ a w g hsz hcl hlen hsort hT hg hind hs hc hN hl hK
    have : T = [] := List.length_eq_zero_iff.1 (by omega)
    subst this
    refine ⟨List.eq_nil_iff_forall_not_mem.2 fun j hj => ?_, hK a w g hc (Move.refl _ _) hN rfl⟩
    obtain ⟨t, ht, _⟩ := (hT j).2 (mem_ready.1 hj).1
    cases ht
  | succ fuel ih =>
    intro listed T σ a w g hsz hcl hlen hsort hT hg hind hs hc hN hl hK
    refine ⟨fun hr => ?_, fun i hi => ?_⟩
    · cases T with
      | nil => exact hK a w g hc (Move.refl _ _) hN rfl
      | cons t T =>
        exfalso
        have hti := (hT t.i).1 ⟨t, by simp, rfl⟩
        have hlt : t.i < ops.size := by
          rcases Nat.lt_or_ge t.i listed.size with k | k
          · omega
          · simp [Array.getElem?_eq_none k] at hti
        have : t.i ∈ Region.ready .any ops listed := by
          refine mem_ready.2 ⟨hti, ops[t.i], Array.getElem?_eq_getElem hlt, fun e he hb => ?_⟩
          have hlow := hdown t.i _ (Array.getElem?_eq_getElem hlt) e he hb
          have hel : e.on < listed.size := by omega
          cases hle : listed.getD e.on false with
          | true => rfl
          | false =>
            have : listed.getD e.on true = false := by
              simp only [Array.getD_eq_getD_getElem?, Array.getElem?_eq_getElem hel, Option.getD_some] at hle ⊢
              exact hle
            obtain ⟨u, hu, hue⟩ := (hT e.on).2 this
            rcases List.mem_cons.1 hu with q | q
            · subst q; omega
            · simp only [List.map_cons, List.pairwise_cons] at hsort
              have := hsort.1 u.i (List.mem_map.2 ⟨u, q, rfl⟩)
              omega
        rw [hr] at this
        cases this
    · obtain ⟨h0, o, ho, hall⟩ := mem_ready.1 hi
      obtain ⟨t, ht, hti⟩ := (hT i).2 h0
      subst hti
      obtain ⟨A, B, rfl⟩ := List.append_of_mem ht
      have hnot : ∀ u ∈ A, Indep u t := by
        intro u hu
        rw [List.pairwise_append] at hind
        refine hind.2.2 u hu t (by simp) ?_
        cases hab : afterB ops.toList ops.size t.i u.i with
        | false => rfl
        | true =>
          exfalso
          have := afterB_listed hcl _ t.i u.i (fun o' e ho' he hb => by rw [ho] at ho'; cases ho'; exact hall e he hb) hab
          have h2 := (hT u.i).1 ⟨u, by simp [hu], rfl⟩
          have hlt := listed_lt this
          simp only [Array.getD_eq_getD_getElem?, Array.getElem?_eq_getElem hlt, Option.getD_some] at this h2
          rw [this] at h2
          cases h2
      obtain ⟨⟨t1, t2, _, _⟩, g1, g2⟩ := hg.take hnot
      refine hs t ht σ a w g _ t1 hc hN hl fun a' w' g' hc' hm hs' hd => ?_
      rw [t2] at hc'
      have hsub : (A ++ B).Sublist (A ++ t :: B) := List.Sublist.append_left (List.sublist_cons_self _ _) _
      have hlti : t.i < listed.size := by
        rcases Nat.lt_or_ge t.i listed.size with k | k
        · exact k
        · simp [Array.getElem?_eq_none k] at h0
      refine ih (listed.setIfInBounds t.i true) (A ++ B) (σ.upds t.us) a' w' g' (by simpa using hsz) ?_ (by simp at hlen ⊢; omega) (hsort.sublist (hsub.map _)) (fun j => ?_) g1 (hind.sublist hsub) (fun u hu => hs u (hsub.subset hu)) hc' hs' (by rw [hm.lim]; exact hl) (fun a2 w2 g2' c2 m2 s2 d2 => hK a2 w2 g2' (by rw [← g2]; exact c2) (hm.trans m2) s2 (d2.trans hd))
      · intro j o' e hj ho' he hb
        by_cases hjt : t.i = j
        · subst hjt
          rw [ho] at ho'
          cases ho'
          exact getD_set_true (hall e he hb)
        · rw [getD_set_ne true hjt] at hj
          exact getD_set_true (hcl j o' e hj ho' he hb)
      · by_cases hjt : t.i = j
        · subst hjt
          constructor
          · rintro ⟨u, hu, e⟩
            exfalso
            rw [List.map_append, List.map_cons, List.pairwise_append] at hsort
            rcases List.mem_append.1 hu with q | q
            · have := hsort.2.2 u.i (List.mem_map.2 ⟨u, q, rfl⟩) t.i (by simp)
              omega
            · have := (List.pairwise_cons.1 hsort.2.1).1 u.i (List.mem_map.2 ⟨u, q, rfl⟩)
              omega
          · intro h
            simp [hlti] at h
        · rw [getD_set_ne true hjt, ← hT j]
          constructor
          · rintro ⟨u, hu, e⟩
            exact ⟨u, hsub.subset hu, e⟩
          · rintro ⟨u, hu, e⟩
            refine ⟨u, ?_, e⟩
            simp only [List.mem_append, List.mem_cons] at hu ⊢
            rcases hu with q | q | q
            · exact .inl q
            · subst q; exact absurd e hjt
            · exact .inr q
end Vx

namespace Vx
open Go Classical
set_option linter.unusedSimpArgs false
set_option linter.unusedVariables false

theorem Core.heap {E : Env} {σ : Sg} {tmps : Array Value} {w w' : World} {g : Gh} (hc : Core E σ tmps w g) (h : w'.heap = w.heap) : Core E σ tmps w' g :=
  Core.step hc ⟨Nat.le_refl _, fun b _ h' => ⟨h', by rw [h]⟩, fun r c _ h' => ⟨h', fun _ => rfl⟩, fun _ _ => rfl⟩
    (fun n => .inl ⟨rfl, rfl, rfl, fun c => ⟨fun b p _ h' => ⟨h', by rw [h]⟩, fun _ => rfl⟩⟩)
    (fun k kd h' => .inl ⟨h', fun c => ⟨rfl, ⟨fun b p _ h' => ⟨h', by rw [h]⟩, fun _ => rfl⟩⟩, fun _ h' => ⟨h', by rw [h]⟩⟩) (fun k c => .inl rfl)
    (fun k es h' => .inl ⟨h', fun _ h' => ⟨h', by rw [h]⟩⟩) (fun _ h => h) (fun b _ => ⟨rfl, by rw [h]⟩) (by rw [h]; exact Nat.le_refl _)
theorem Move.heap {w w' w'' : World} {g g' : Gh} (h : w'.heap = w.heap) (he : w'.os = w.os ∧ w'.tape = w.tape ∧ w'.output = w.output) (m : Move w' g w'' g') : Move w g w'' g' :=
  ⟨by rw [← h]; exact m.size, m.lim, fun b hb ho => by rw [← h]; exact m.keep b (by rw [h]; exact hb) ho, m.bl, fun b k hb hk ho => by
    obtain ⟨e1, e2⟩ := m.box b k (by rw [h]; exact hb) hk ho
    exact ⟨e1, fun cs el fr hh => e2 cs el fr (by rw [h]; exact hh)⟩, ⟨m.env.1.trans he.1, m.env.2.1.trans he.2.1, m.env.2.2.trans he.2.2⟩, m.vhd⟩

theorem indepFrom_spec {ops : List Oper} {j : Nat} {x : List Loc × List Loc} : ∀ {l : List (List Loc × List Loc)} {i : Nat}, l.length = i + 1 ∨ l = [] → indepFrom ops j x i l = true → ∀ k y, l[k]? = some y →
    afterB ops ops.length j (i - k) = false → meets y.2 x.1 = false ∧ meets y.2 x.2 = false ∧ meets x.2 y.2 = false ∧ meets x.2 y.1 = false
  | [], i, _, _, k, y, hk, _ => by simp at hk
  | z :: l, i, hl, h, k, y, hk, ha => by
    simp only [indepFrom, Bool.and_eq_true, Bool.or_eq_true, Bool.not_eq_true'] at h
    cases k with
    | zero =>
      simp at hk
      subst hk
      rcases h.1 with h1 | h1
      · simpa [Bool.or_eq_false_iff, and_assoc] using h1
      · rw [Nat.sub_zero] at ha
        rw [ha] at h1; cases h1
    | succ k =>
      refine indepFrom_spec (l := l) (i := i - 1) ?_ h.2 k y (by simpa using hk) (by rw [← ha]; congr 1; omega)
      rcases hl with hl | hl
      · cases l with
        | nil => exact .inr rfl
        | cons _ l => left; simp at hl ⊢; omega
      · cases hl
theorem indepAll_spec {ops : List Oper} : ∀ {M : List (List Loc × List Loc)}, indepAll ops M = true → ∀ i j y x, i < j → M.reverse[i]? = some y → M.reverse[j]? = some x → afterB ops ops.length j i = false →
    meets y.2 x.1 = false ∧ meets y.2 x.2 = false ∧ meets x.2 y.2 = false ∧ meets x.2 y.1 = false
  | [], _, i, j, y, x, _, h, _, _ => by simp at h
  | z :: M, h, i, j, y, x, hij, hi, hj, ha => by
    simp only [indepAll, Bool.and_eq_true] at h
    rw [List.reverse_cons] at hi hj
    have hjl := lt_of_getElem? hj
    simp at hjl
    have hil : i < M.reverse.length := by simp; omega
    rw [List.getElem?_append_left hil] at hi
    by_cases hjm : j < M.length
    · rw [List.getElem?_append_left (by simpa using hjm)] at hj
      exact indepAll_spec h.2 i j y x hij hi hj ha
    · have hje : j = M.length := by omega
      subst hje
      rw [List.getElem?_append_right (by simp)] at hj
      simp at hj
      subst hj
      have hil' : i < M.length := by simpa using hil
      have hk : M[M.length - 1 - i]? = some y := by
        rw [List.getElem?_reverse hil'] at hi
        exact hi
      refine indepFrom_spec (i := M.length - 1) (l := M) (by cases M with | nil => exact .inr rfl | cons _ M => left; simp) h.1 (M.length - 1 - i) y hk ?_
      rw [show M.length - 1 - (M.length - 1 - i) = i by omega]
      exact ha
theorem edgesDown_spec : ∀ {l : List Oper} {k : Nat}, edgesDown k l = true → ∀ i o, l[i]? = some o → ∀ e ∈ o.after, Region.binds .any e = true → e.on < k + i
  | [], k, _, i, o, h => by simp at h
  | o' :: l, k, hd, i, o, h => by
    simp only [edgesDown, Bool.and_eq_true, List.all_eq_true, Bool.or_eq_true, Bool.not_eq_true', decide_eq_true_eq] at hd
    intro e he hb
    cases i with
    | zero =>
      simp at h
      subst h
      rcases hd.1 e (by simpa using he) with q | q
      · rw [hb] at q; cases q
      · omega
    | succ i =>
      have := edgesDown_spec hd.2 i o (by simpa using h) e he hb
      omega

/-- A region. -/
theorem region_wp {E : Env} {N : Nat} {R : Rel} {ops : Array Oper} {id : Nat} {draw : Bool} {Q : Exit → Act → World → Prop} (hmix : E.P.follows .mixedOrders = true)
    (hS : ∀ (i : Nat) (o : Oper) (an : Ans) (us : List Upd) (rd : List Loc), ops[i]? = some o → Sound E N ops Q ⟨i, ostep E.P R ops.toList o an, us, rd⟩)
    {s : St} {K : St → Prop} (h : aops E.P R ops.toList ops.toList s [] fun s l => (draw = true → indep ops.toList l = true) ∧ K s) {a : Act} {w : World} {g : Gh}
    (hc : Core E s.sg a.tmps w g) (hs : a.tmps.size = N) (hl : LIM ≤ g.lim)
    (hK : ∀ s' a' w' g', K s' → Core E s'.sg a'.tmps w' g' → Move w g w' g' → a'.tmps.size = N → a'.defers = a.defers → Q .normal a' w') : (Code.region id ops draw).wp E.P Q a w := by
  obtain ⟨T, hg, hi, hT, s', hs', hd, hk⟩ := aops_steps 0 h
  have hlen : T.length = ops.size := by
    have := congrArg List.length hi
    simpa using this
  have hidx : ∀ (j : Nat) (t : Task), T[j]? = some t → t.i = j := by
    intro j t hj
    have : (T.map (·.i))[j]? = some t.i := by simp [hj]
    have hlt := lt_of_getElem? hj
    rw [hi] at this
    simp only [Array.length_toList] at this
    rw [List.getElem?_range'] at this
    · simp only [Option.some.injEq] at this; omega
    · omega
  have hsound : ∀ t ∈ T, Sound E N ops Q t := by
    intro t ht
    obtain ⟨o, an, h1, _, h3⟩ := hT t ht
    have := hS t.i o an t.us t.rd (by simpa using h1)
    rw [← h3] at this
    exact this
  have hend : ∀ (a' : Act) (w' : World) (g' : Gh), Core E (after s.sg T) a'.tmps w' g' → Move w g w' g' → a'.tmps.size = N → a'.defers = a.defers → Q .normal a' w' := by
    intro a' w' g' c m z d
    rw [← hs'] at c
    exact hK s' a' w' g' hk c m z d
  cases draw with
  | false =>
    apply wp_region
    have : List.range ops.size = T.map (·.i) := by rw [hi, List.range_eq_range']; simp
    rw [this]
    exact seq_ok hg hsound hc hs hl hend
  | true =>
    have hin := hd rfl
    simp only [indep, Bool.and_eq_true, List.append_nil] at hin
    obtain ⟨hdn, hall⟩ := hin
    apply wp_region_any hmix
    refine any_ok (N := N) (fun i o ho e he hb => ?_) ops.size (Array.replicate ops.size false) T s.sg a _ g (by simp) (fun i o e hi' => ?_) (by omega) (by rw [hi]; exact List.pairwise_lt_range') (fun i => ?_) hg ?_ hsound (hc.heap rfl) hs hl
      (fun a' w' g' c m z d => hend a' w' g' c (Move.heap (w := w) (w' := { w with drawn := w.drawn + 1 }) rfl ⟨rfl, rfl, rfl⟩ m) z d)
    · have := edgesDown_spec hdn i o (by simpa using ho) e he hb
      omega
    · rcases Nat.lt_or_ge i ops.size with k | k
      · simp [k] at hi'
      · intro ho
        rw [Array.getElem?_eq_none k] at ho
        cases ho
    · constructor
      · rintro ⟨t, ht, rfl⟩
        obtain ⟨j, hj⟩ := List.getElem?_of_mem ht
        have := hidx j t hj
        have hlt := lt_of_getElem? hj
        rw [this]
        simp [show j < ops.size by omega]
      · intro h0
        rcases Nat.lt_or_ge i ops.size with k | k
        · have hlt : i < T.length := by omega
          exact ⟨T[i], List.getElem_mem _, hidx i _ (List.getElem?_eq_getElem hlt)⟩
        · simp [show ¬ i < ops.size by omega] at h0
    · rw [List.pairwise_iff_getElem]
      intro i j hi' hj' hij haf
      have ti : T[i].i = i := hidx i _ (List.getElem?_eq_getElem hi')
      have tj : T[j].i = j := hidx j _ (List.getElem?_eq_getElem hj')
      rw [ti, tj] at haf
      obtain ⟨m1, m2, m3, m4⟩ := indepAll_spec hall i j (T[i].rd, wlocs T[i].us) (T[j].rd, wlocs T[j].us) hij (by simp [hi']) (by simp [hj']) (by simpa using haf)
      exact ⟨meets_wrs m2 m3, meets_wr m4, meets_wr m1⟩
end Vx

namespace Vx
open Go Classical
set_option linter.unusedSimpArgs false
set_option linter.unusedVariables false

/-! ## The end of a region: new places become old ones -/
theorem mem_newKeys {α : Type} {j : Nat} : ∀ {l : List (Nat × α)}, j ∈ newKeys l ↔ 1000 ≤ j ∧ (lk (j + 99000) l).isSome = true
  | [] => by simp [newKeys, lk]
  | (k, x) :: l => by
    have ih := mem_newKeys (j := j) (l := l)
    simp only [newKeys, lk]
    by_cases h : 100000 ≤ k
    · rw [if_pos h]
      simp only [List.mem_cons, ih]
      by_cases e : j + 99000 = k
      · rw [if_pos e]; simp; omega
      · rw [if_neg e]
        have : j ≠ k - 99000 := by omega
        simp [this]
    · rw [if_neg h, ih]
      by_cases e : j + 99000 = k
      · rw [if_pos e]
        constructor
        · rintro ⟨h1, _⟩; omega
        · rintro ⟨h1, _⟩; omega
      · rw [if_neg e]

section
variable (s : St)
def St.nb : List Nat := newKeys s.ob ++ newKeys s.mp
theorem mem_nb {j : Nat} : j ∈ s.nb ↔ 1000 ≤ j ∧ ((lk (j + 99000) s.ob).isSome = true ∨ (lk (j + 99000) s.mp).isSome = true) := by
  simp only [St.nb, List.mem_append, mem_newKeys]
  constructor
  · rintro (⟨h1, h2⟩ | ⟨h1, h2⟩)
    · exact ⟨h1, .inl h2⟩
    · exact ⟨h1, .inr h2⟩
  · rintro ⟨h1, h2 | h2⟩
    · exact .inl ⟨h1, h2⟩
    · exact .inr ⟨h1, h2⟩
end
theorem movedK_iff {nb : List Nat} {k : Nat} : movedK nb k = true ↔ 100000 ≤ k ∧ (k - 99000) ∈ nb := by simp [movedK]
theorem deadK_iff {nb : List Nat} {k : Nat} : deadK nb k = true ↔ k ∈ nb ∧ ¬ movedK nb k = true := by simp [deadK]
theorem keyK_moved {nb : List Nat} {k : Nat} (h : movedK nb k = true) : keyK nb k = k - 99000 := by simp [keyK, h]
theorem keyK_stay {nb : List Nat} {k : Nat} (h : ¬ movedK nb k = true) : keyK nb k = k := by simp [keyK, h]
theorem moved_back {nb : List Nat} (hnb : ∀ j ∈ nb, 1000 ≤ j) {j : Nat} (h : j ∈ nb) : movedK nb (j + 99000) = true := by
  rw [movedK_iff]
  have := hnb j h
  exact ⟨by omega, by simpa using h⟩

theorem lk_fix {α β : Type} {nb : List Nat} (hnb : ∀ j ∈ nb, 1000 ≤ j) (f : α → β) (F : List (Nat × α) → List (Nat × β)) (h0 : F [] = [])
    (h1 : ∀ k x l, F ((k, x) :: l) = if deadK nb k then F l else (keyK nb k, f x) :: F l) : ∀ (l : List (Nat × α)) (k' : Nat),
    lk k' (F l) = if k' ∈ nb then (lk (k' + 99000) l).map f else if movedK nb k' = true then none else (lk k' l).map f
  | [], k' => by rw [h0]; simp [lk]
  | (k, x) :: l, k' => by
    have ih := lk_fix hnb f F h0 h1 l k'
    rw [h1]
    by_cases hd : deadK nb k = true
    · rw [if_pos hd, ih]
      obtain ⟨d1, d2⟩ := deadK_iff.1 hd
      have e1 : ¬ (k' ∈ nb ∧ k' + 99000 = k) := by
        rintro ⟨q1, rfl⟩
        exact d2 (moved_back hnb q1)
      simp only [lk]
      by_cases hk : k' ∈ nb
      · rw [if_pos hk, if_pos hk, if_neg (fun q => e1 ⟨hk, q⟩)]
      · rw [if_neg hk, if_neg hk, if_neg (fun q : k' = k => hk (q ▸ d1))]
    · rw [if_neg hd]
      simp only [lk]
      by_cases hm : movedK nb k = true
      · rw [keyK_moved hm]
        obtain ⟨m1, m2⟩ := movedK_iff.1 hm
        by_cases e : k' = k - 99000
        · have e' : k' + 99000 = k := by omega
          have m2' : k' ∈ nb := by rw [e]; exact m2
          simp only [if_pos e, if_pos m2', if_pos e', Option.map_some]
        · rw [if_neg e, ih]
          by_cases hk : k' ∈ nb
          · rw [if_pos hk, if_pos hk, if_neg (by omega)]
          · rw [if_neg hk, if_neg hk]
            by_cases hmk : movedK nb k' = true
            · rw [if_pos hmk, if_pos hmk]
            · rw [if_neg hmk, if_neg hmk, if_neg (by intro q; subst q; exact hmk hm)]
      · rw [keyK_stay hm]
        have hknb : k ∉ nb := fun q => hd (deadK_iff.2 ⟨q, hm⟩)
        by_cases e : k' = k
        · subst e
          rw [if_pos rfl, if_neg hknb, if_neg hm, if_pos rfl, Option.map_some]
        · rw [if_neg e, ih]
          by_cases hk : k' ∈ nb
          · rw [if_pos hk, if_pos hk, if_neg]
            rintro rfl
            exact hm (moved_back hnb hk)
          · rw [if_neg hk, if_neg hk, if_neg e]
theorem lk_fixOb {nw nb : List Nat} {di : List (Root × Nat)} (hnb : ∀ j ∈ nb, 1000 ≤ j) (l : List (Nat × List C)) (k' : Nat) :
    lk k' (fixOb nw nb di l) = if k' ∈ nb then (lk (k' + 99000) l).map (·.map (fixC nw nb di)) else if movedK nb k' = true then none else (lk k' l).map (·.map (fixC nw nb di)) :=
  lk_fix hnb (·.map (fixC nw nb di)) (fixOb nw nb di) rfl (fun _ _ _ => rfl) l k'
theorem lk_fixMp {nb : List Nat} (hnb : ∀ j ∈ nb, 1000 ≤ j) (l : List (Nat × List (T × T))) (k' : Nat) :
    lk k' (fixMp nb l) = if k' ∈ nb then lk (k' + 99000) l else if movedK nb k' = true then none else lk k' l := by
  have := lk_fix hnb id (fixMp nb) rfl (fun _ _ _ => rfl) l k'
  simpa using this
theorem lk_fixVi {nw nb : List Nat} {di : List (Root × Nat)} : ∀ (l : List (Nat × C)) (k' : Nat), lk k' (fixVi nw nb di l) = if k' ∈ nb ∨ movedK nb k' = true then none else (lk k' l).map (fixC nw nb di)
  | [], k' => by simp [fixVi, lk]
  | (k, x) :: l, k' => by
    have ih := lk_fixVi (nw := nw) (nb := nb) (di := di) l k'
    simp only [fixVi]
    by_cases h : (nb.contains k || movedK nb k) = true
    · rw [if_pos h, ih]
      have h' : k ∈ nb ∨ movedK nb k = true := by simpa using h
      by_cases e : k' = k
      · subst e; rw [if_pos h', if_pos h']
      · simp only [lk, if_neg e]
    · rw [if_neg h]
      have h' : ¬ (k ∈ nb ∨ movedK nb k = true) := by simpa using h
      by_cases e : k' = k
      · subst e; simp only [lk, if_true, if_neg h']; rfl
      · simp only [lk, if_neg e, ih]
theorem lk_fixSl {keep nw nb : List Nat} {di : List (Root × Nat)} : ∀ (l : List (Nat × SV)) (n : Nat), lk n (fixSl keep nw nb di l) = if n ∈ keep then (lk n l).map (fixSV nw nb di) else none
  | [], n => by simp [fixSl, lk]
  | (m, x) :: l, n => by
    have ih := lk_fixSl (keep := keep) (nw := nw) (nb := nb) (di := di) l n
    simp only [fixSl]
    by_cases h : keep.contains m = true
    · rw [if_pos h]
      have h' : m ∈ keep := by simpa using h
      by_cases e : n = m
      · subst e; simp [lk, h']
      · simp only [lk, if_neg e, ih]
    · rw [if_neg h, ih]
      have h' : m ∉ keep := by simpa using h
      by_cases e : n = m
      · subst e; rw [if_neg h', if_neg h']
      · simp only [lk, if_neg e]

/-- The renaming of the places. -/
def fixRen (nw nb : List Nat) (hnb : ∀ j ∈ nb, 1000 ≤ j) : Ren where
  S a := match a.root with
    | .new n => n ∈ nw
    | .obj k => movedK nb k = true
    | _ => False
  D a := match a.root with
    | .slot n => n ∈ nw
    | .obj k => k ∈ nb
    | _ => False
  f a := fixA nb a
  fi a := match a.root with
    | .slot n => { a with root := .new n }
    | .obj k => { a with root := .obj (k + 99000) }
    | _ => a
  inv := by
    rintro ⟨r, c, p⟩ h
    cases r with
    | new n => exact ⟨h, rfl⟩
    | obj k =>
      have h : movedK nb k = true := h
      obtain ⟨h1, h2⟩ := movedK_iff.1 h
      refine ⟨?_, ?_⟩
      · show keyK nb k ∈ nb
        rw [keyK_moved h]; exact h2
      · show (⟨Root.obj (keyK nb k + 99000), c, p⟩ : CA) = _
        rw [keyK_moved h, Nat.sub_add_cancel (by omega)]
    | slot n => exact h.elim
    | ret => exact h.elim
  hop := by
    rintro ⟨r, c, p⟩ h x
    exact ⟨h, rfl⟩
def Tag.fix (nb : List Nat) : Tag → Tag
  | .box k => if movedK nb k = true then .box (k - 99000) else if k ∈ nb then .other else .box k
  | t => t
noncomputable def fixGh (nw nb : List Nat) (hnb : ∀ j ∈ nb, 1000 ≤ j) (g : Gh) : Gh :=
  { g.ren (fixRen nw nb hnb) with
    ow := fun b => ((g.ren (fixRen nw nb hnb)).ow b).fix nb
    bl := fun j => if j ∈ nb then g.bl (j + 99000) else g.bl j }

section
variable {nw nb : List Nat} {hnb : ∀ j ∈ nb, 1000 ≤ j} {w : World} {g : Gh} {d : Dirt} {di : List (Root × Nat)}
theorem fixGh_fz {b : Nat} (h : g.ow b = .frozen) : (fixGh nw nb hnb g).ow b = .frozen := by simp [fixGh, Gh.ren, h, Tag.fix]
theorem fixGh_other {b : Nat} (h : g.ow b = .other) : (fixGh nw nb hnb g).ow b = .other := by simp [fixGh, Gh.ren, h, Tag.fix]
theorem fixGh_box {b k : Nat} (h : g.ow b = .box k) (hd : deadK nb k = false) : (fixGh nw nb hnb g).ow b = .box (keyK nb k) := by
  simp only [fixGh, Gh.ren, h, Tag.fix]
  by_cases hm : movedK nb k = true
  · rw [if_pos hm, keyK_moved hm]
  · rw [if_neg hm, keyK_stay hm, if_neg]
    intro q
    rw [deadK_iff.2 ⟨q, hm⟩] at hd
    cases hd
theorem fixGh_bl {k : Nat} (hd : deadK nb k = false) : (fixGh nw nb hnb g).bl (keyK nb k) = g.bl k := by
  show (if keyK nb k ∈ nb then g.bl (keyK nb k + 99000) else g.bl (keyK nb k)) = _
  by_cases hm : movedK nb k = true
  · obtain ⟨h1, h2⟩ := movedK_iff.1 hm
    rw [keyK_moved hm, if_pos h2, Nat.sub_add_cancel (by omega)]
  · rw [keyK_stay hm, if_neg]
    intro q
    rw [deadK_iff.2 ⟨q, hm⟩] at hd
    cases hd
theorem Rep.fixG {a : CA} {t : T} {v : Value} (h : Rep w (g.ren (fixRen nw nb hnb)) a t v) : Rep w (fixGh nw nb hnb g) a t v := by
  refine h.frame (Nat.le_refl _) (fun b _ ho => ⟨?_, rfl⟩) (fun b a' _ _ ho => ⟨?_, rfl⟩) (fun _ _ => rfl)
  · show ((g.ren (fixRen nw nb hnb)).ow b).fix nb = .frozen
    rw [ho]; rfl
  · show ((g.ren (fixRen nw nb hnb)).ow b).fix nb = .own a'
    rw [ho]; rfl

/-- A root that stays or moves. -/
def Fine (nw nb : List Nat) (r : Root) : Prop := isNewOf nw r = false ∧ deadR nb r = false ∧ ∀ n, r = .new n → n ∈ nw
theorem fine_stay {r : Root} (h : Fine nw nb r) {c : Nat} {p : List Hop} (hS : ¬ (fixRen nw nb hnb).S ⟨r, c, p⟩) : ¬ (fixRen nw nb hnb).D ⟨r, c, p⟩ ∧ fixR nb r = r := by
  obtain ⟨h1, h2, h3⟩ := h
  cases r with
  | slot n => exact ⟨fun q => by have : n ∈ nw := q; simp [isNewOf, this] at h1, rfl⟩
  | new n => exact absurd (h3 n rfl) hS
  | obj k =>
    have hm : ¬ movedK nb k = true := hS
    refine ⟨fun q => ?_, by simp only [fixR, keyK_stay hm]⟩
    have hd := deadK_iff.2 ⟨show k ∈ nb from q, hm⟩
    simp [deadR, hd] at h2
  | ret => exact ⟨fun q => q.elim, rfl⟩
theorem fine_hd {p : CA} (h : Fine nw nb p.root) : (fixGh nw nb hnb g).hd (fixA nb p) = g.hd p := by
  show (g.ren (fixRen nw nb hnb)).hd (fixA nb p) = _
  by_cases hS : (fixRen nw nb hnb).S p
  · obtain ⟨e1, e2⟩ := (fixRen nw nb hnb).inv p hS
    show (if (fixRen nw nb hnb).D (fixA nb p) then g.hd ((fixRen nw nb hnb).fi (fixA nb p)) else g.hd (fixA nb p)) = _
    have e1' : (fixRen nw nb hnb).D (fixA nb p) := e1
    rw [if_pos e1']
    exact congrArg g.hd e2
  · obtain ⟨e1, e2⟩ := fine_stay (hnb := hnb) h (c := p.c) (p := p.path) hS
    have : fixA nb p = p := by cases p; simp only [fixA, e2]
    rw [this]
    exact Gh.ren_hd e1
theorem fine_rep {r : Root} (h : Fine nw nb r) {c : Nat} {t : T} {v : Value} (hr : Rep w g ⟨r, c, []⟩ t v) : Rep w (fixGh nw nb hnb g) ⟨fixR nb r, c, []⟩ t v := by
  by_cases hS : (fixRen nw nb hnb).S ⟨r, c, []⟩
  · exact (hr.ren (Mem.refl _ _) hS).fixG
  · obtain ⟨e1, e2⟩ := fine_stay (hnb := hnb) h hS
    rw [e2]
    have hst : Still w w g (g.ren (fixRen nw nb hnb)) r c := Gh.ren_still (Mem.refl _ _) (fun p => hS) (fun p => e1)
    have hk : Keeps w w g (g.ren (fixRen nw nb hnb)) (fun _ _ => false) (fun _ _ => false) (fun _ => False) := ⟨Nat.le_refl _, fun b _ h => ⟨Gh.ren_fz h, rfl⟩, fun _ _ h => h.elim, fun _ h => h.elim⟩
    exact (hr.still hk hst).fixG
theorem fine_prep {p : CA} {v : Value} (h : Fine nw nb p.root) (hr : PRep g p v) : PRep (fixGh nw nb hnb g) (fixA nb p) v := by
  obtain ⟨r, c, q⟩ := p
  cases q with
  | nil =>
    obtain ⟨k, rfl, e⟩ := PRep.path_nil.1 hr
    refine PRep.path_nil.2 ⟨keyK nb k, rfl, ?_⟩
    rw [fixGh_bl h.2.1]; exact e
  | cons x q =>
    obtain ⟨b, off, n, cap, e1, e2⟩ := PRep.path_cons.1 hr
    refine PRep.path_cons.2 ⟨b, off, n, cap, ?_, e2⟩
    exact (fine_hd (p := ⟨r, c, q⟩) h).trans e1

/-- Who is exposed is fine, or dropped. -/
def OkRoots (nw : List Nat) (l : List Root) : Prop := ∀ r ∈ l, ∀ n, r = .new n → n ∈ nw
theorem CRep.fix {r : Root} (hr : Fine nw nb r) {c : Nat} {x : C} {v : Value} (hd : ∀ r c, d r c = true → (r, c) ∈ di) (h : CRep w g d ⟨r, c, []⟩ x v) (hroots : OkRoots nw x.roots) :
    CRep w (fixGh nw nb hnb g) (fun _ _ => false) ⟨fixR nb r, c, []⟩ (fixC nw nb di x) v := by
  cases h with
  | t h => exact .t (fine_rep hr h)
  | @ref p _ h h1 =>
    simp only [fixC]
    split
    · exact .t (.fro .top)
    · rename_i hc
      simp only [Bool.or_eq_true, not_or, Bool.not_eq_true, List.contains_eq_mem, decide_eq_false_iff_not] at hc
      obtain ⟨⟨q1, q2⟩, q3⟩ := hc
      refine .ref (fun _ => ?_) h1
      have hdf : d p.root p.c = false := by
        cases hh : d p.root p.c with
        | false => rfl
        | true => exact absurd (hd _ _ hh) q2
      rw [h hdf]
      exact (fine_hd ⟨q1, q3, hroots _ (by simp [C.roots])⟩).symm
  | @ptr p _ h h0 h1 =>
    simp only [fixC]
    split
    · exact .t (.fro .top)
    · rename_i hc
      simp only [Bool.or_eq_true, not_or, Bool.not_eq_true, Bool.and_eq_true, not_and] at hc
      obtain ⟨⟨q1, q2⟩, q3⟩ := hc
      have hp : PRep g p v := by
        by_cases hpn : p.path = []
        · exact h0 hpn
        · refine h hpn ?_
          cases hh : d p.root p.c with
          | false => rfl
          | true =>
            have := q2 (by simpa using hpn)
            rw [List.contains_eq_mem] at this
            simp [hd _ _ hh] at this
      have hp' := fine_prep (hnb := hnb) ⟨q1, q3, hroots _ (by simp [C.roots])⟩ hp
      exact .ptr (fun _ _ => hp') (fun _ => hp') h1
  | fp vs hh ho hcell hrec => exact .fp vs hh (fixGh_fz ho) hcell fun j x hj => (hrec j x hj).frame (Nat.le_refl _) fun b _ hb => ⟨fixGh_fz hb, rfl⟩
  | @clo f caps vs hn h =>
    simp only [fixC]
    split
    · rename_i hc
      simp only [List.all_eq_true] at hc
      have := CRep.clo (w := w) (g := fixGh nw nb hnb g) (d := fun _ _ => false) (a := ⟨fixR nb r, c, []⟩) (f := f) (caps := caps.map (fixCap nb)) vs (fun x hx => by
        obtain ⟨y, hy, rfl⟩ := List.mem_map.1 hx
        have := hn y hy
        cases y <;> first | rfl | exact this) (fun j x hj => by
        simp only [List.getElem?_map, Option.map_eq_some_iff] at hj
        obtain ⟨y, hy, rfl⟩ := hj
        have hmem := List.mem_of_getElem? hy
        have h1 := h j y hy
        have hok := hc y hmem
        cases y with
        | t y =>
          cases h1 with | t h1 =>
          exact .t (.fro ((h1.isFro fun sz xs e => by subst e; have := hn _ hmem; simp [C.isOwn] at this).frame (Nat.le_refl _) fun b _ hb => ⟨fixGh_fz hb, rfl⟩))
        | ptr p =>
          obtain ⟨r', c', q⟩ := p
          cases r' with
          | obj k =>
            cases q with
            | nil =>
              simp only [okCap, Bool.not_eq_true'] at hok
              cases h1 with | ptr _ h0 h2 =>
              have hp' := fine_prep (hnb := hnb) (nw := nw) (p := ⟨.obj k, c', []⟩) ⟨rfl, hok, fun n e => by cases e⟩ (h0 rfl)
              exact .ptr (fun _ _ => hp') (fun _ => hp') h2
            | cons _ _ => simp [okCap] at hok
          | _ => simp [okCap] at hok
        | _ => simp [okCap] at hok)
      simpa using this
    · exact .t (.fro .top)
  | @mp k _ h =>
    simp only [fixC]
    split
    · exact .t (.fro .top)
    · rename_i hdead
      refine .mp ?_
      rw [fixGh_bl (by simpa using hdead)]
      exact h
end
end Vx

namespace Vx
open Go Classical
set_option linter.unusedSimpArgs false
set_option linter.unusedVariables false

theorem nb_ge (s : St) : ∀ j ∈ s.nb, 1000 ≤ j := fun j h => ((mem_nb s).1 h).1
section
variable {s : St} {keep : List Nat}
abbrev St.fc (s : St) : C → C := fixC s.nw s.nb s.di
theorem fix_slot (n : Nat) : (s.fix keep).slot n = if n ∈ keep then fixSV s.nw s.nb s.di (s.slot n) else .c (.t .top) := by
  show (lk n (fixSl keep s.nw s.nb s.di s.sl)).getD _ = _
  rw [lk_fixSl]
  split
  · cases h : lk n s.sl with
    | none => simp [St.slot, h, fixSV, fixSV1, fixC]
    | some x => simp [St.slot, h]
  · rfl
theorem fix_isnew (n : Nat) : (s.fix keep).isnew n = false := rfl
theorem fix_dirty : (s.fix keep).dirty = fun _ _ => false := rfl
theorem getD_fix (row : List C) (c : Nat) : (row.map s.fc).getD c (.t .top) = s.fc (row.getD c (.t .top)) := by
  simp only [List.getD, List.getElem?_map]
  cases row[c]? with
  | none => rfl
  | some x => rfl
theorem fix_ob (k' : Nat) : lk k' (s.fix keep).ob = if k' ∈ s.nb then (lk (k' + 99000) s.ob).map (·.map s.fc) else if movedK s.nb k' = true then none else (lk k' s.ob).map (·.map s.fc) := lk_fixOb (nb_ge s) _ _
theorem fix_vi (k' : Nat) : lk k' (s.fix keep).vi = if k' ∈ s.nb ∨ movedK s.nb k' = true then none else (lk k' s.vi).map s.fc := lk_fixVi _ _
theorem fix_mp (k' : Nat) : lk k' (s.fix keep).mp = if k' ∈ s.nb then lk (k' + 99000) s.mp else if movedK s.nb k' = true then none else lk k' s.mp := lk_fixMp (nb_ge s) _ _
theorem obj_src {k' : Nat} {kd : Kind} (h : (s.fix keep).kind k' = some kd) : ∃ k, deadK s.nb k = false ∧ keyK s.nb k = k' ∧ s.kind k = some kd ∧ ∀ c, (s.fix keep).cell k' c = s.fc (s.cell k c) := by
  by_cases h1 : k' ∈ s.nb
  · have hm := moved_back (nb_ge s) h1
    refine ⟨k' + 99000, ?_, by rw [keyK_moved hm]; omega, ?_⟩
    · cases hd : deadK s.nb (k' + 99000) with
      | false => rfl
      | true => exact absurd hm (deadK_iff.1 hd).2
    · simp only [St.kind, fix_ob, fix_vi, if_pos h1, h1, true_or, if_true] at h
      cases ho : lk (k' + 99000) s.ob with
      | none => rw [ho] at h; simp at h
      | some row =>
        rw [ho] at h
        simp only [Option.map_some, List.length_map, Option.some.injEq] at h
        subst h
        refine ⟨by simp [St.kind, ho], fun c => ?_⟩
        simp only [St.cell, fix_ob, if_pos h1, ho, Option.map_some]
        exact getD_fix row c
  · by_cases h2 : movedK s.nb k' = true
    · exfalso
      simp only [St.kind, fix_ob, fix_vi, if_neg h1, if_pos h2, h2, or_true, if_true] at h
      cases h
    · refine ⟨k', ?_, keyK_stay h2, ?_⟩
      · cases hd : deadK s.nb k' with
        | false => rfl
        | true => exact absurd (deadK_iff.1 hd).1 h1
      · have h3 : ¬ (k' ∈ s.nb ∨ movedK s.nb k' = true) := by simp [h1, h2]
        simp only [St.kind, St.cell, fix_ob, fix_vi, if_neg h1, if_neg h2, if_neg h3] at h ⊢
        cases ho : lk k' s.ob with
        | some row =>
          rw [ho] at h
          simp only [Option.map_some, List.length_map] at h ⊢
          exact ⟨h, fun c => getD_fix row c⟩
        | none =>
          rw [ho] at h
          cases hv : lk k' s.vi with
          | none => rw [hv] at h; simp at h
          | some x =>
            rw [hv] at h
            simp only [Option.map_none, Option.map_some] at h ⊢
            refine ⟨h, fun c => ?_⟩
            split <;> rfl
theorem cell_none {k' c : Nat} (h : (s.fix keep).kind k' = none) : (s.fix keep).cell k' c = .t .top := by
  simp only [St.kind] at h
  simp only [St.cell]
  cases ho : lk k' (s.fix keep).ob with
  | some row => rw [ho] at h; cases h
  | none =>
    rw [ho] at h
    cases hv : lk k' (s.fix keep).vi with
    | some x => rw [hv] at h; cases h
    | none => rfl
theorem ex_key {k : Nat} (h : s.sg.ex (.obj k)) (hd : deadK s.nb k = false) : (s.fix keep).sg.ex (.obj (keyK s.nb k)) := by
  by_cases hm : movedK s.nb k = true
  · obtain ⟨h1, h2⟩ := movedK_iff.1 hm
    rw [keyK_moved hm]
    obtain ⟨_, h3⟩ := (mem_nb s).1 h2
    rw [Nat.sub_add_cancel (by omega)] at h3
    rcases h3 with h3 | h3
    · refine .inr (.inl ?_)
      show (s.fix keep).kind (k - 99000) ≠ none
      obtain ⟨row, hr⟩ := Option.isSome_iff_exists.1 h3
      simp [St.kind, fix_ob, if_pos h2, Nat.sub_add_cancel (show 99000 ≤ k by omega), hr]
    · refine .inr (.inr ?_)
      show lk (k - 99000) (s.fix keep).mp ≠ none
      obtain ⟨es, hr⟩ := Option.isSome_iff_exists.1 h3
      simp [fix_mp, if_pos h2, Nat.sub_add_cancel (show 99000 ≤ k by omega), hr]
  · have hnb : k ∉ s.nb := fun q => by rw [deadK_iff.2 ⟨q, hm⟩] at hd; cases hd
    rw [keyK_stay hm]
    rcases Nat.lt_or_ge k 100000 with hlt | hge
    · exact .inl hlt
    · have hnot : ¬ ((lk k s.ob).isSome = true ∨ (lk k s.mp).isSome = true) := by
        intro q
        apply hm
        rw [movedK_iff]
        refine ⟨hge, (mem_nb s).2 ⟨by omega, ?_⟩⟩
        rw [Nat.sub_add_cancel (by omega)]
        exact q
      simp only [not_or, Option.not_isSome_iff_eq_none, Bool.not_eq_true, Option.isSome_eq_false_iff, Option.isNone_iff_eq_none] at hnot
      rcases h with h | h | h
      · exact .inl h
      · refine .inr (.inl ?_)
        have h : s.kind k ≠ none := h
        show (s.fix keep).kind k ≠ none
        have h3 : ¬ (k ∈ s.nb ∨ movedK s.nb k = true) := by simp [hnb, hm]
        simp only [St.kind, hnot.1] at h
        simp only [St.kind, fix_ob, fix_vi, if_neg hnb, if_neg hm, if_neg h3, hnot.1, Option.map_none]
        cases hv : lk k s.vi with
        | none => rw [hv] at h; exact absurd rfl h
        | some x => simp
      · have h : lk k s.mp ≠ none := h
        exact absurd hnot.2 h
theorem ex_root {r : Root} (h : s.sg.ex r) (hd : deadR s.nb r = false) : (s.fix keep).sg.ex (fixR s.nb r) := by
  cases r with
  | slot n => trivial
  | new n => trivial
  | obj k => exact ex_key h hd
  | ret => exact h.elim
theorem fc_roots {x : C} (h : ∀ r ∈ x.roots, s.sg.ex r) : ∀ r ∈ (s.fc x).roots, (s.fix keep).sg.ex r := by
  intro r hr
  cases x with
  | t y => simp [fixC, C.roots] at hr
  | ref p =>
    simp only [St.fc, fixC] at hr
    split at hr
    · simp [C.roots] at hr
    · rename_i hc
      simp only [Bool.or_eq_true, not_or, Bool.not_eq_true] at hc
      simp only [C.roots, List.mem_singleton] at hr
      subst hr
      exact ex_root (h _ (by simp [C.roots])) hc.2
  | ptr p =>
    simp only [St.fc, fixC] at hr
    split at hr
    · simp [C.roots] at hr
    · rename_i hc
      simp only [Bool.or_eq_true, not_or, Bool.not_eq_true] at hc
      simp only [C.roots, List.mem_singleton] at hr
      subst hr
      exact ex_root (h _ (by simp [C.roots])) hc.2
  | fp row c => simp [fixC, C.roots] at hr
  | clo f caps =>
    simp only [St.fc, fixC] at hr
    split at hr
    · rename_i hc
      simp only [List.all_eq_true] at hc
      simp only [C.roots] at hr
      obtain ⟨z, hz, hr⟩ := C.mem_rootsL.1 hr
      obtain ⟨y, hy, rfl⟩ := List.mem_map.1 hz
      have hok := hc y hy
      cases y with
      | t y => simp [fixCap, C.roots] at hr
      | ptr p =>
        obtain ⟨r', c', q⟩ := p
        cases r' with
        | obj k =>
          cases q with
          | nil =>
            simp only [okCap, Bool.not_eq_true'] at hok
            simp only [fixCap, C.roots, List.mem_singleton, fixA, fixR] at hr
            subst hr
            exact ex_key (h _ (by simp only [C.roots]; exact C.mem_rootsL.2 ⟨_, hy, by simp [C.roots]⟩)) hok
          | cons _ _ => simp [okCap] at hok
        | _ => simp [okCap] at hok
      | _ => simp [okCap] at hok
    · simp [C.roots] at hr
  | mp k =>
    simp only [St.fc, fixC] at hr
    split at hr
    · simp [C.roots] at hr
    · rename_i hc
      simp only [C.roots, List.mem_singleton] at hr
      subst hr
      exact ex_key (h _ (by simp [C.roots])) (by simpa using hc)
theorem fixSV1_roots {x : SV} (h : ∀ r ∈ x.roots, s.sg.ex r) : ∀ r ∈ (fixSV1 s.nw s.nb s.di x).roots, (s.fix keep).sg.ex r := by
  intro r hr
  cases x with
  | c x => exact fc_roots h r hr
  | agg row =>
    simp only [fixSV1, SV.roots] at hr
    obtain ⟨z, hz, hr⟩ := C.mem_rootsL.1 hr
    obtain ⟨y, hy, rfl⟩ := List.mem_map.1 hz
    exact fc_roots (fun r hr => h r (by simp only [SV.roots]; exact C.mem_rootsL.2 ⟨y, hy, hr⟩)) r hr
  | tup l => simp [fixSV1, SV.roots, C.roots] at hr
theorem fixSV_roots {x : SV} (h : ∀ r ∈ x.roots, s.sg.ex r) : ∀ r ∈ (fixSV s.nw s.nb s.di x).roots, (s.fix keep).sg.ex r := by
  intro r hr
  cases x with
  | tup l =>
    simp only [fixSV, SV.roots] at hr
    obtain ⟨z, hz, hr⟩ := SV.mem_rootsL.1 hr
    obtain ⟨y, hy, rfl⟩ := List.mem_map.1 hz
    exact fixSV1_roots (fun r hr => h r (by simp only [SV.roots]; exact SV.mem_rootsL.2 ⟨y, hy, hr⟩)) r hr
  | c x => exact fixSV1_roots h r hr
  | agg row => exact fixSV1_roots h r hr
theorem fixSV_flat {x : SV} (h : x.flat = true) : (fixSV s.nw s.nb s.di x).flat = true := by
  cases x with
  | tup l =>
    simp only [fixSV, SV.flat, List.all_eq_true] at h ⊢
    intro z hz
    obtain ⟨y, hy, rfl⟩ := List.mem_map.1 hz
    have := h y hy
    cases y with
    | c x => rfl
    | agg row => simpa [fixSV1] using this
    | tup l => rfl
  | c x => rfl
  | agg row => rfl
theorem ok_roots {l : List Root} (h : ∀ r ∈ l, s.sg.ex r) : OkRoots s.nw l := by
  rintro r hr n rfl
  have : s.isnew n = true := h _ hr
  simpa [St.isnew] using this

theorem SVRep.fix1 {w : World} {g : Gh} {hnb : ∀ j ∈ s.nb, 1000 ≤ j} {r : Root} (hr : Fine s.nw s.nb r) {n : Nat} {sv : SV} {v : Value} (hroots : ∀ r ∈ sv.roots, s.sg.ex r) (h : SVRep w g s.dirty r n sv v) :
    SVRep w (fixGh s.nw s.nb hnb g) (fun _ _ => false) (fixR s.nb r) n (fixSV1 s.nw s.nb s.di sv) v := by
  have hd : ∀ r c, s.dirty r c = true → (r, c) ∈ s.di := by intro r c h; simpa [St.dirty] using h
  cases h with
  | c h => exact .c (h.fix hr hd (ok_roots hroots))
  | agg vs h =>
    rename_i row
    have := SVRep.agg (w := w) (g := fixGh s.nw s.nb hnb g) (d := fun _ _ => false) (r := fixR s.nb r) (n := n) (row := row.map (fixC s.nw s.nb s.di)) vs (fun j x hj => by
      simp only [List.getElem?_map, Option.map_eq_some_iff] at hj
      obtain ⟨y, hy, rfl⟩ := hj
      exact (h j y hy).fix hr hd (ok_roots fun r hr => hroots r (by simp only [SV.roots]; exact C.mem_rootsL.2 ⟨y, List.mem_of_getElem? hy, hr⟩)))
    rw [List.length_map] at this
    exact this
  | tup vs h => exact .c (.t (.fro .top))
theorem SVRep.fix {w : World} {g : Gh} {hnb : ∀ j ∈ s.nb, 1000 ≤ j} {r : Root} (hr : Fine s.nw s.nb r) {sv : SV} {v : Value} (hroots : ∀ r ∈ sv.roots, s.sg.ex r) (h : SVRep w g s.dirty r 0 sv v) :
    SVRep w (fixGh s.nw s.nb hnb g) (fun _ _ => false) (fixR s.nb r) 0 (fixSV s.nw s.nb s.di sv) v := by
  cases sv with
  | c x => exact h.fix1 hr hroots
  | agg row => exact h.fix1 hr hroots
  | tup l =>
    cases h with
    | tup vs h =>
      have := SVRep.tup (w := w) (g := fixGh s.nw s.nb hnb g) (d := fun _ _ => false) (r := fixR s.nb r) (n := 0) (l := l.map (fixSV1 s.nw s.nb s.di)) vs (fun j x hj => by
        simp only [List.getElem?_map, Option.map_eq_some_iff] at hj
        obtain ⟨y, hy, rfl⟩ := hj
        exact (h j y hy).fix1 hr fun r hr => hroots r (by simp only [SV.roots]; exact SV.mem_rootsL.2 ⟨y, List.mem_of_getElem? hy, hr⟩))
      rw [List.length_map] at this
      exact this

theorem Core.fix {E : Env} {tmps : Array Value} {w : World} {g : Gh} (hc : Core E s.sg tmps w g) (keep : List Nat) :
    Core E (s.fix keep).sg tmps w (fixGh s.nw s.nb (nb_ge s) g) ∧ Move w g w (fixGh s.nw s.nb (nb_ge s) g) := by
  have hd : ∀ r c, s.dirty r c = true → (r, c) ∈ s.di := by intro r c h; simpa [St.dirty] using h
  refine ⟨⟨fun n => ?_, fun n => ?_, fun n r hr => ?_, fun k' c r hr => ?_, fun k' kd h => ?_, fun k' es h => ?_, fun b hb => ?_, hc.size⟩, ?_⟩
  · show SVRep w _ (fun _ _ => false) (.slot n) 0 ((s.fix keep).slot n) _
    rw [fix_slot]
    split
    · have hfine : Fine s.nw s.nb (s.sg.rt n) := by
        rcases s.sg.rt_slot n with e | e
        · rw [e]
          refine ⟨?_, rfl, fun m q => by cases q⟩
          have : s.isnew n = false := by
            cases hn : s.isnew n with
            | false => rfl
            | true =>
              have : s.sg.rt n = .new n := by simp [Sg.rt, Vx.rt, St.sg, hn]
              rw [this] at e; cases e
          simpa [isNewOf, St.isnew] using this
        · rw [e]
          refine ⟨rfl, rfl, fun m q => ?_⟩
          cases q
          have : s.isnew n = true := by
            cases hn : s.isnew n with
            | true => rfl
            | false =>
              have : s.sg.rt n = .slot n := by simp [Sg.rt, Vx.rt, St.sg, hn]
              rw [this] at e; cases e
          simpa [St.isnew] using this
      have := SVRep.fix (hnb := nb_ge s) hfine (hc.liveS n) (hc.slots n)
      have hfr : fixR s.nb (s.sg.rt n) = .slot n := by rcases s.sg.rt_slot n with e | e <;> rw [e] <;> rfl
      rw [hfr] at this
      exact this
    · exact .c (.t (.fro .top))
  · show ((s.fix keep).slot n).flat = true
    rw [fix_slot]
    split
    · exact fixSV_flat (hc.flat n)
    · rfl
  · have hr : r ∈ ((s.fix keep).slot n).roots := hr
    rw [fix_slot] at hr
    split at hr
    · exact fixSV_roots (hc.liveS n) r hr
    · simp [SV.roots, C.roots] at hr
  · have hr : r ∈ ((s.fix keep).cell k' c).roots := hr
    cases hk : (s.fix keep).kind k' with
    | none => rw [cell_none hk] at hr; simp [C.roots] at hr
    | some kd =>
      obtain ⟨k, _, _, _, h4⟩ := obj_src hk
      rw [h4] at hr
      exact fc_roots (hc.liveC k c) r hr
  · obtain ⟨k, h1, h2, h3, h4⟩ := obj_src (show (s.fix keep).kind k' = some kd from h)
    have base := hc.objs k kd h3
    have hfine : Fine s.nw s.nb (.obj k) := ⟨rfl, h1, fun n q => by cases q⟩
    have hcell : ∀ c u, CRep w g s.dirty ⟨.obj k, c, []⟩ (s.cell k c) u → CRep w (fixGh s.nw s.nb (nb_ge s) g) (fun _ _ => false) ⟨.obj k', c, []⟩ ((s.fix keep).cell k' c) u := by
      intro c u hu
      have := hu.fix (hnb := nb_ge s) hfine hd (ok_roots (hc.liveC k c))
      rw [h4]
      simp only [fixR, h2] at this
      exact this
    have hbl := fixGh_bl (nw := s.nw) (hnb := nb_ge s) (g := g) h1
    rw [h2] at hbl
    cases kd with
    | box m =>
      obtain ⟨cs, el, b1, b2, b3, b4, b5⟩ := base
      refine ⟨cs, el, by rw [hbl]; exact b1, ?_, by rw [hbl]; exact b3, by rw [hbl]; exact b4, fun c hcm => ?_⟩
      · rw [hbl, fixGh_box b2 h1, h2]
      · obtain ⟨u, u1, u2⟩ := b5 c hcm
        exact ⟨u, by rw [hbl]; exact u1, hcell c u u2⟩
    | virt =>
      obtain ⟨u, hu⟩ := base
      exact ⟨u, hcell 0 u hu⟩
  · have h : lk k' (s.fix keep).mp = some es := h
    rw [fix_mp] at h
    have hsrc : ∃ k, deadK s.nb k = false ∧ keyK s.nb k = k' ∧ s.map k = some es := by
      by_cases h1 : k' ∈ s.nb
      · rw [if_pos h1] at h
        have hm := moved_back (nb_ge s) h1
        refine ⟨k' + 99000, ?_, by rw [keyK_moved hm]; omega, h⟩
        cases hdd : deadK s.nb (k' + 99000) with
        | false => rfl
        | true => exact absurd hm (deadK_iff.1 hdd).2
      · rw [if_neg h1] at h
        by_cases h2 : movedK s.nb k' = true
        · rw [if_pos h2] at h; cases h
        · rw [if_neg h2] at h
          refine ⟨k', ?_, keyK_stay h2, h⟩
          cases hdd : deadK s.nb k' with
          | false => rfl
          | true => exact absurd (deadK_iff.1 hdd).1 h1
    obtain ⟨k, h1, h2, h3⟩ := hsrc
    obtain ⟨l, ck, m1, m2, m3, m4⟩ := hc.maps k es h3
    have hbl := fixGh_bl (nw := s.nw) (hnb := nb_ge s) (g := g) h1
    rw [h2] at hbl
    refine ⟨l, ck, by rw [hbl]; exact m1, by rw [hbl, fixGh_box m2 h1, h2], m3, fun i e x a1 a2 => ?_⟩
    obtain ⟨q1, q2⟩ := m4 i e x a1 a2
    exact ⟨q1.frame (Nat.le_refl _) fun b _ hb => ⟨fixGh_fz hb, rfl⟩, q2.frame (Nat.le_refl _) fun b _ hb => ⟨fixGh_fz hb, rfl⟩⟩
  · obtain ⟨e1, e2⟩ := hc.glob b hb
    exact ⟨fixGh_other e1, e2⟩
  · refine ⟨Nat.le_refl _, rfl, fun b _ h => ⟨?_, rfl⟩, fun k hk => ?_, fun b k _ hk h => ⟨?_, fun cs _ _ hh => ⟨cs, hh, rfl, fun _ _ => rfl⟩⟩, ⟨rfl, rfl, rfl⟩, fun k c p hk _ => ?_⟩
    · rcases h with h | h
      · rw [h, fixGh_fz h]
      · rw [h, fixGh_other h]
    · show (if k ∈ s.nb then g.bl (k + 99000) else g.bl k) = _
      rw [if_neg]
      intro q
      have := nb_ge s k q
      omega
    · have h1 : deadK s.nb k = false := by
        cases hdd : deadK s.nb k with
        | false => rfl
        | true =>
          have := nb_ge s k (deadK_iff.1 hdd).1
          omega
      rw [fixGh_box h h1, keyK_stay]
      intro q
      have := (movedK_iff.1 q).1
      omega
    · exact Gh.ren_hd fun q => by
        have := nb_ge s k (show k ∈ s.nb from q)
        omega
end
end Vx

namespace Vx
open Go Classical
set_option linter.unusedSimpArgs false
set_option linter.unusedVariables false

/-- Each operation's step is sound. -/
def Step1OK (E : Env) (N : Nat) (R : Rel) : Prop :=
  ∀ (o : Oper) (an : Ans) (σ : Sg), okOper N o = true → ((ostep1 E.P R o an).run σ).ok → OpOK E N o σ ((ostep1 E.P R o an).run σ).upd

theorem slot_bool {E : Env} {σ : Sg} {tmps : Array Value} {w : World} {g : Gh} (hc : Core E σ tmps w g) {d : Nat} {b : Bool} (h : σ.slot d = .c (.t (.bool b))) : tmps.getD d undef = .bool b := by
  have := hc.slots d
  rw [h] at this
  generalize tmps.getD d undef = v at this
  cases this with | c h => cases h with | t h => cases h with | fro h => cases h; rfl
theorem slot_val {E : Env} {σ : Sg} {tmps : Array Value} {w : World} {g : Gh} (hc : Core E σ tmps w g) {d : Nat} {v : Value} (h : σ.slot d = .c (.t (.val v))) : tmps.getD d undef = v := by
  have := hc.slots d
  rw [h] at this
  generalize tmps.getD d undef = v' at this
  cases this with | c h => cases h with | t h => cases h with | fro h => cases h; rfl
theorem yielded_of {ops : Array Oper} {tmps : Array Value} {j d : Nat} (hd : (ops[j]?).bind (·.dst) = some d) : yielded ops tmps j = match tmps.getD d undef with | .bool b => some b | _ => none := by
  unfold yielded
  rw [hd]
  simp only [Option.bind_some, Array.getD_eq_getD_getElem?]
  cases tmps[d]? with
  | none => rfl
  | some v => cases v <;> rfl

theorem skip_sound {E : Env} {N : Nat} {o : Oper} {σ : Sg} (hN : okOper N o = true) (h : ((skipOp o).run σ).ok) {a : Act} {w : World} {g : Gh} (hc : Core E σ a.tmps w g) (hs : a.tmps.size = N) {K : Act → World → Prop}
    (hK : ∀ a' w' g', Core E (σ.upds ((skipOp o).run σ).upd) a'.tmps w' g' → Move w g w' g' → a'.tmps.size = N → a'.defers = a.defers → K a' w') : K (a.put o.dst undef) w := by
  unfold skipOp at *
  obtain ⟨_, h2, h3⟩ := put_ok h
  cases hd : o.dst with
  | none =>
    refine hK _ w g ?_ (Move.refl _ _) hs rfl
    rw [(h3 hd).1]
    exact hc
  | some d =>
    obtain ⟨hn, e, _⟩ := h2 d hd
    refine hK _ w g ?_ (Move.refl _ _) (by simpa [Act.put] using hs) rfl
    rw [e]
    exact hc.put hn (.c (.t (.fro .val))) (by simp [SV.roots, C.roots]) rfl (.inl (by rw [hs]; exact dst_lt hN hd))

theorem step_sound {E : Env} {N : Nat} {R : Rel} (h1 : Step1OK E N R) {ops : Array Oper} {Q : Exit → Act → World → Prop} {i : Nat} {o : Oper} (hi : ops[i]? = some o) (hN : okOper N o = true) (an : Ans) (us : List Upd) (rd : List Loc) :
    Sound E N ops Q ⟨i, ostep E.P R ops.toList o an, us, rd⟩ := by
  intro σ a w g K hok hc hs hl hK
  simp only at hok hK ⊢
  unfold wpOp
  rw [hi]
  simp only
  have hrun : ∀ (hw : Region.wanted o (yielded ops a.tmps) = true), ((ostep1 E.P R o an).run σ).ok → (∀ a' w' g', Core E (σ.upds ((ostep1 E.P R o an).run σ).upd) a'.tmps w' g' → Move w g w' g' → a'.tmps.size = N → a'.defers = a.defers → K a' w') →
      (if Region.wanted o (yielded ops a.tmps) = true then o.wp E.P a w K Q ∨ (o.asks E.P a w ∧ LetsOut Q) else K (a.put o.dst undef) w) := by
    intro hw hok' hK'
    rw [if_pos hw]
    exact .inl (h1 o an σ hN hok' a w g hc hs hl K Q hK')
  have hskip : ∀ (hw : ¬ Region.wanted o (yielded ops a.tmps) = true), ((skipOp o).run σ).ok → (∀ a' w' g', Core E (σ.upds ((skipOp o).run σ).upd) a'.tmps w' g' → Move w g w' g' → a'.tmps.size = N → a'.defers = a.defers → K a' w') →
      (if Region.wanted o (yielded ops a.tmps) = true then o.wp E.P a w K Q ∨ (o.asks E.P a w ∧ LetsOut Q) else K (a.put o.dst undef) w) := by
    intro hw hok' hK'
    rw [if_neg hw]
    exact skip_sound hN hok' hc hs hK'
  unfold ostep at hok hK
  cases hg : o.guard with
  | none =>
    rw [hg] at hok hK
    exact hrun (by simp [Region.wanted, hg]) hok hK
  | some gw =>
    obtain ⟨j, want⟩ := gw
    rw [hg] at hok hK
    simp only at hok hK
    cases hd : (ops.toList[j]?).bind (·.dst) with
    | none => rw [hd] at hok; exact hok.elim
    | some d =>
      rw [hd] at hok hK
      have hd' : (ops[j]?).bind (·.dst) = some d := by simpa using hd
      have hy := yielded_of (tmps := a.tmps) hd'
      simp only [Rd.run] at hok hK
      split at hok
      · rename_i b hsl
        rw [hsl] at hK
        simp only at hK
        rw [slot_bool hc hsl] at hy
        by_cases hb : b = want
        · rw [if_pos hb] at hok hK
          exact hrun (by simp [Region.wanted, hg, hy, hb]) hok hK
        · rw [if_neg hb] at hok hK
          exact hskip (by simp [Region.wanted, hg, hy, hb]) hok hK
      · rename_i vs hsl
        rw [hsl] at hK
        simp only at hK
        rw [slot_val hc hsl] at hy
        exact hskip (by simp [Region.wanted, hg, hy]) hok hK
      · exact hok.elim

theorem least {p : Nat → Prop} : ∀ (n : Nat), p n → ∃ k, p k ∧ ∀ m, p m → k ≤ m := by
  intro n
  induction n using Nat.strongRecOn with
  | _ n ih =>
    intro hn
    by_cases h : ∃ m, m < n ∧ p m
    · obtain ⟨m, h1, h2⟩ := h
      exact ih m h1 h2
    · refine ⟨n, hn, fun m hm => ?_⟩
      rcases Nat.lt_or_ge m n with q | q
      · exact absurd ⟨m, q, hm⟩ h
      · exact q
/-! ## Code -/
def okCode (N : Nat) : Code → Bool
  | .region _ ops _ => ops.all (okOper N)
  | .seq a b => okCode N a && okCode N b
  | .cond _ a b => okCode N a && okCode N b
  | .block _ c => okCode N c
  | .loop c => okCode N c
  | _ => true
def axE : AX → Exit
  | .normal => .normal
  | .exit id => .exit id
  | .ret => .ret
/-- What holds at an exit. -/
def At (E : Env) (N : Nat) (a0 : Act) (w0 : World) (g0 : Gh) (Q : AX → St → Prop) : Exit → Act → World → Prop :=
  fun e a w => ∃ ax s g, e = axE ax ∧ Q ax s ∧ Core E s.sg a.tmps w g ∧ Move w0 g0 w g ∧ a.tmps.size = N ∧ a.defers = a0.defers

theorem lk_onlySl (s : St) (n : Nat) : ∀ l : List Nat, lk n (onlySl s l) = if n ∈ l then some (s.slot n) else none
  | [] => by simp [onlySl, lk]
  | m :: l => by
    simp only [onlySl, lk, lk_onlySl s n l, List.mem_cons]
    by_cases e : n = m
    · subst e; simp
    · simp [e]
theorem lk_onlyOb (ol : List Nat) (k : Nat) : ∀ l : List (Nat × List C), lk k (onlyOb ol l) = if k ∈ ol ∨ 100000 ≤ k then lk k l else none
  | [] => by simp [onlyOb, lk]
  | (j, row) :: l => by
    have ih := lk_onlyOb ol k l
    simp only [onlyOb]
    by_cases h : (ol.contains j || decide (100000 ≤ j)) = true
    · rw [if_pos h]
      have h' : j ∈ ol ∨ 100000 ≤ j := by simpa using h
      simp only [lk, ih]
      by_cases e : k = j
      · subst e; simp [h']
      · simp [e]
    · rw [if_neg h, ih]
      have h' : ¬ (j ∈ ol ∨ 100000 ≤ j) := by simpa using h
      by_cases e : k = j
      · subst e; rw [if_neg h', if_neg h']
      · simp only [lk, if_neg e]
theorem lk_onlyVi (ob : List (Nat × List C)) (k : Nat) : ∀ l : List (Nat × C), lk k (onlyVi ob l) = if (lk k ob).isNone = true then lk k l else none
  | [] => by simp [onlyVi, lk]
  | (j, x) :: l => by
    have ih := lk_onlyVi ob k l
    simp only [onlyVi]
    by_cases h : (lk j ob).isNone = true
    · rw [if_pos h]
      simp only [lk, ih]
      by_cases e : k = j
      · subst e; simp [h]
      · simp [e]
    · rw [if_neg h, ih]
      by_cases e : k = j
      · subst e; rw [if_neg h, if_neg h]
      · simp only [lk, if_neg e]
theorem only_slot (s : St) (kl ol : List Nat) (n : Nat) : (s.only kl ol).slot n = if n ∈ kl then s.slot n else .c (.t .top) := by
  show (lk n (onlySl s kl)).getD _ = _
  rw [lk_onlySl]
  split <;> rfl
theorem only_kind (s : St) (kl ol : List Nat) (k : Nat) : (s.only kl ol).kind k = if (k ∈ ol ∨ 100000 ≤ k) ∨ (lk k s.ob).isNone = true then s.kind k else none := by
  simp only [St.kind, St.only, lk_onlyOb, lk_onlyVi]
  cases h : lk k s.ob with
  | none => simp
  | some row =>
    by_cases e : k ∈ ol ∨ 100000 ≤ k
    · simp [e]
    · simp [e]
theorem only_cell (s : St) (kl ol : List Nat) (k c : Nat) : (s.only kl ol).cell k c = if (k ∈ ol ∨ 100000 ≤ k) ∨ (lk k s.ob).isNone = true then s.cell k c else .t .top := by
  simp only [St.cell, St.only, lk_onlyOb, lk_onlyVi]
  cases h : lk k s.ob with
  | none => simp
  | some row =>
    by_cases e : k ∈ ol ∨ 100000 ≤ k
    · simp [e]
    · simp [e]
theorem Core.only {E : Env} {s : St} {tmps : Array Value} {w : World} {g : Gh} (hc : Core E s.sg tmps w g) (kl ol : List Nat) : Core E (s.only kl ol).sg tmps w g := by
  have hex : ∀ r, s.sg.ex r → (s.only kl ol).sg.ex r := by
    intro r h
    cases r with
    | obj k =>
      rcases Nat.lt_or_ge k 100000 with q | q
      · exact .inl q
      · rcases h with h | h | h
        · exact .inl h
        · refine .inr (.inl ?_)
          show (s.only kl ol).kind k ≠ none
          rw [only_kind, if_pos (.inl (.inr q))]
          exact h
        · exact .inr (.inr h)
    | _ => exact h
  refine Core.step hc ⟨Nat.le_refl _, fun _ _ h => ⟨h, rfl⟩, fun r c _ hd => ⟨hd, fun _ => rfl⟩, fun _ _ => rfl⟩ (fun n => ?_) (fun k kd h => ?_) (fun k c => ?_) (fun k es h => .inl ⟨h, fun _ h => ⟨h, rfl⟩⟩) hex (fun b _ => ⟨rfl, rfl⟩) (Nat.le_refl _)
  · by_cases e : n ∈ kl
    · exact .inl ⟨by show (s.only kl ol).slot n = _; rw [only_slot, if_pos e]; rfl, rfl, rfl, fun c => Still.refl _ _ _ _⟩
    · have e2 : (s.only kl ol).sg.slot n = .c (.t .top) := by show (s.only kl ol).slot n = _; rw [only_slot, if_neg e]
      refine .inr ⟨?_, by rw [e2]; rfl, by rw [e2]; simp [SV.roots, C.roots]⟩
      rw [e2]
      exact .c (.t (.fro .top))
  · left
    have h : (s.only kl ol).kind k = some kd := h
    rw [only_kind] at h
    split at h
    · rename_i hcond
      exact ⟨h, fun c => ⟨by show (s.only kl ol).cell k c = _; rw [only_cell, if_pos hcond]; rfl, Still.refl _ _ _ _⟩, fun _ h => ⟨h, rfl⟩⟩
    · cases h
  · by_cases e : (k ∈ ol ∨ 100000 ≤ k) ∨ (lk k s.ob).isNone = true
    · exact .inl (by show (s.only kl ol).cell k c = _; rw [only_cell, if_pos e]; rfl)
    · right
      have : (s.only kl ol).sg.cell k c = .t .top := by show (s.only kl ol).cell k c = _; rw [only_cell, if_neg e]
      rw [this]
      simp [C.roots]

theorem Core.dirtier {E : Env} {σ : Sg} {tmps : Array Value} {w : World} {g : Gh} (hc : Core E σ tmps w g) (d' : Dirt) (h : ∀ r c, d' r c = false → σ.dirty r c = false) : Core E { σ with dirty := d' } tmps w g := by
  have hex : ∀ r, σ.ex r → Sg.ex { σ with dirty := d' } r := fun r hr => by cases r <;> exact hr
  refine Core.step hc ⟨Nat.le_refl _, fun _ _ h => ⟨h, rfl⟩, fun r c _ hd => ⟨h r c hd, fun _ => rfl⟩, fun _ _ => rfl⟩ (fun n => .inl ⟨rfl, rfl, rfl, fun c => Still.refl _ _ _ _⟩)
    (fun k kd h => .inl ⟨h, fun c => ⟨rfl, Still.refl _ _ _ _⟩, fun _ h => ⟨h, rfl⟩⟩) (fun k c => .inl rfl) (fun k es h => .inl ⟨h, fun _ h => ⟨h, rfl⟩⟩) hex (fun b _ => ⟨rfl, rfl⟩) (Nat.le_refl _)
theorem dirt_sg (s : St) (r : Root) (c : Nat) : (s.dirt r c).sg = { s.sg with dirty := fun r' j => ((r, c) :: s.di).contains (r', j) } := rfl
theorem cellP_is {s : St} {r : Root} {c : Nat} {x : C} (hr : s.rtOf r = r) (h : s.cellP r c = some x) : PlaceC s.sg r c x ∧ ∀ k, r = .obj k → 1000 ≤ k := by
  have slot : ∀ n, s.rtOf r = rt n (s.isnew n) → (s.slot n).cellAt c = some x → PlaceC s.sg r c x ∧ ∀ k, r = .obj k → 1000 ≤ k := by
    intro n e h
    rw [hr] at e
    have e : r = s.sg.rt n := e
    refine ⟨⟨by rw [e]; exact s.sg.rt_ex n, fun m hm => ?_, fun k q => absurd (e.symm.trans q) (s.sg.rt_ne_obj n k), fun q => ?_⟩, fun k q => absurd (e.symm.trans q) (s.sg.rt_ne_obj n k)⟩
    · have : m = n := by rcases hm with q | q <;> rcases s.sg.rt_slot n with e1 | e1 <;> rw [q, e1] at e <;> cases e <;> rfl
      subst this
      exact ⟨e, h⟩
    · rcases s.sg.rt_slot n with e1 | e1 <;> rw [q, e1] at e <;> cases e
  cases r with
  | slot n => exact slot n rfl h
  | new n => exact slot n rfl h
  | obj k =>
    simp only [St.cellP] at h
    split at h
    · rename_i hc
      simp only [Bool.and_eq_true, decide_eq_true_eq] at hc
      simp only [Option.some.injEq] at h
      refine ⟨⟨.inr (.inl fun e => ?_), fun m hm => (by rcases hm with e | e <;> cases e), fun k' e => by cases e; exact ⟨hc.2, h⟩, by simp⟩, fun k' e => by cases e; exact hc.1⟩
      have e : s.kind k = none := e
      rw [e] at hc
      cases hc.2
    · cases h
  | ret => cases h
theorem PlaceC.at {σ : Sg} {r : Root} {c : Nat} {t : T} (h : PlaceC σ r c (.t t)) : PlaceAt σ r c t := ⟨h.ex, h.slot, h.obj, h.nret⟩
theorem PlaceC.dirt {σ : Sg} {r : Root} {c : Nat} {x : C} (h : PlaceC σ r c x) (d : Dirt) : PlaceC { σ with dirty := d } r c x := ⟨by have := h.ex; cases r <;> exact this, h.slot, h.obj, h.nret⟩
theorem PlaceC.hole {σ : Sg} {r r' : Root} {c c' : Nat} {x x' y : C} (h : PlaceC σ r c x) (h' : PlaceC σ r' c' x') (hn : ¬ (r' = r ∧ c' = c)) : PlaceC (σ.setP r c y) r' c' x' := by
  refine ⟨by rw [Sg.setP_ex]; exact h'.ex, fun n e => ?_, fun k e => ?_, h'.nret⟩
  · obtain ⟨e1, e2⟩ := h'.slot n e
    refine ⟨by rw [Sg.setP_rt]; exact e1, ?_⟩
    by_cases hr : r = .slot n ∨ r = .new n
    · obtain ⟨f1, f2⟩ := h.slot n hr
      have : (σ.setP r c y).slot n = (σ.slot n).setAt c y := by rcases hr with e | e <;> subst e <;> simp [Sg.setP]
      rw [this]
      exact SV.cellAt_setAt_ne e2 (fun q => hn ⟨e1.trans f1.symm, q⟩) ⟨_, f2⟩
    · have : (σ.setP r c y).slot n = σ.slot n := by
        cases r with
        | slot m => have : n ≠ m := fun q => hr (.inl (by rw [q])); simp [Sg.setP, this]
        | new m => have : n ≠ m := fun q => hr (.inr (by rw [q])); simp [Sg.setP, this]
        | _ => rfl
      rw [this]; exact e2
  · obtain ⟨e1, e2⟩ := h'.obj k e
    refine ⟨by rw [Sg.setP_inr]; exact e1, ?_⟩
    cases r with
    | obj k' =>
      have : ¬ (k = k' ∧ c' = c) := fun q => hn ⟨by rw [e, q.1], q.2⟩
      simp only [Sg.setP]
      rw [if_neg fun q => this ⟨q.1, q.2.1⟩]; exact e2
    | _ => exact e2
theorem Gh.move_same {w : World} {g g' : Gh} (hl : g'.lim = g.lim) (ho : ∀ b, (g.ow b = .frozen ∨ g.ow b = .other → g'.ow b = g.ow b) ∧ ∀ k, g.ow b = .box k → g'.ow b = .box k) (hb : g'.bl = g.bl) (hh : ∀ k c p, k < 1000 → g'.hd ⟨.obj k, c, p⟩ = g.hd ⟨.obj k, c, p⟩) : Move w g w g' :=
  ⟨Nat.le_refl _, hl, fun b _ h => ⟨(ho b).1 h, rfl⟩, fun _ _ => by rw [hb], fun b k _ _ h => ⟨(ho b).2 k h, fun cs _ _ hh => ⟨cs, hh, rfl, fun _ _ => rfl⟩⟩, ⟨rfl, rfl, rfl⟩, fun k c p hk _ => hh k c p hk⟩
/-- Other content, other headers for a place that is dirty. -/
theorem Core.setHd {E : Env} {σ : Sg} {tmps : Array Value} {w : World} {g g' : Gh} (hc : Core E σ tmps w g) {r : Root} {c : Nat} {x : C} {t : T} (hp : PlaceC σ r c x) (hd : σ.dirty r c = true) (hl : g'.lim = g.lim) (hb : g'.bl = g.bl)
    (ho : ∀ b, (∀ r' c' p, σ.ex r' → ¬ (r' = r ∧ c' = c) → g.ow b = .own ⟨r', c', p⟩ → g'.ow b = .own ⟨r', c', p⟩) ∧ (g.ow b = .frozen ∨ g.ow b = .other → g'.ow b = g.ow b) ∧ ∀ k, g.ow b = .box k → g'.ow b = .box k)
    (hh : ∀ r' c' p, σ.ex r' → ¬ (r' = r ∧ c' = c) → g'.hd ⟨r', c', p⟩ = g.hd ⟨r', c', p⟩) (hy : ∀ u, CRep w g σ.dirty ⟨r, c, []⟩ x u → Rep w g' ⟨r, c, []⟩ t u) : Core E (σ.setP r c (.t t)) tmps w g' := by
  refine hc.setC hp ⟨by rw [hl]; exact Nat.le_refl _, fun b _ h => ⟨((ho b).2.1 (.inl h)).trans h, rfl⟩, fun r' c' hr hd' => ⟨hd', fun p => hh r' c' p hr fun e => ?_⟩, fun k _ => by rw [hb]⟩ (by simp [C.roots])
    (fun r' c' hr hne => ⟨fun b p _ h => ⟨(ho b).1 r' c' p hr hne h, rfl⟩, fun p => hh r' c' p hr hne⟩) (fun b k _ h => ⟨(ho b).2.2 k h, rfl⟩) (fun b hb => ⟨(ho b).2.1 (.inr (hc.glob b hb).1), rfl⟩) (Nat.le_refl _) fun u hu => .t (hy u hu)
  rw [e.1, e.2, hd] at hd'
  cases hd'
theorem dirt_mono {s : St} {r r' : Root} {c c' : Nat} (h : ((r, c) :: s.di).contains (r', c') = false) : s.sg.dirty r' c' = false := by
  simp only [List.contains_cons, Bool.or_eq_false_iff] at h
  exact h.2
theorem Core.ga {E : Env} {s : St} {tmps : Array Value} {w : World} {g : Gh} (hc : Core E s.sg tmps w g) {r : Root} (hr : s.rtOf r = r) (c : Nat) (a : GA) : ∃ g', Core E (s.ga r c a).sg tmps w g' ∧ Move w g w g' := by
  unfold St.ga
  split
  · rename_i z hx
    obtain ⟨hp, hk⟩ := cellP_is hr hx
    have h1 := St.setP_sg s r c (.t (.sl true z []))
    rw [dirt_sg, h1]
    have hdi : (s.setP r c (.t (.sl true z []))).di = s.di := by
      cases r <;> simp only [St.setP] <;> repeat (first | rfl | split)
    rw [hdi]
    have hc1 := hc.dirtier (fun r' j => ((r, c) :: s.di).contains (r', j)) fun r' j h => dirt_mono h
    have he : ({ s.sg.setP r c (.t (.sl true z [])) with dirty := fun r' j => ((r, c) :: s.di).contains (r', j) } : Sg) = Sg.setP { s.sg with dirty := fun r' j => ((r, c) :: s.di).contains (r', j) } r c (.t (.sl true z [])) := by cases r <;> rfl
    rw [he]
    refine ⟨{ g with hd := fun a => if a = ⟨r, c, []⟩ then .slice none 0 0 else g.hd a }, hc1.setHd (hp.dirt _) (by simp) rfl rfl (fun b => ⟨fun _ _ _ _ _ h => h, fun _ => rfl, fun _ h => h⟩) (fun r' c' p _ hne => ?_) (fun u hu => ?_), Gh.move_same rfl (fun b => ⟨fun _ => rfl, fun _ h => h⟩) rfl fun k c' p hk' => ?_⟩
    · simp only
      rw [if_neg fun e => ?_]
      cases e
      exact hne ⟨rfl, rfl⟩
    · cases hu with | t hu => cases hu with | fro hu => cases hu; exact .onil (by simp)
    · simp only
      rw [if_neg fun e => ?_]
      cases e
      have := hk k rfl
      omega
  · rename_i z hx
    obtain ⟨hp, _⟩ := cellP_is hr hx
    rw [St.setP_sg]
    refine ⟨g, hc.setPlace (t := .nil) (y := .sl false z []) hp.at (Keeps.refl _ _ _ _) (fun _ _ _ _ => Still.refl _ _ _ _) (fun _ _ _ h => ⟨h, rfl⟩) (fun _ _ => ⟨rfl, rfl⟩) (Nat.le_refl _) fun u hu => ?_, Move.refl _ _⟩
    cases hu with | fro hu => cases hu; exact .fro .fnil
  · rename_i z xs hx
    obtain ⟨hp, _⟩ := cellP_is hr hx
    rw [St.setP_sg]
    let ow' : Nat → Tag := fun b => match g.ow b with | .own a => if a.root = r ∧ a.c = c then .frozen else .own a | t => t
    have ofz : ∀ b, g.ow b = .frozen → ow' b = .frozen := fun b h => by simp only [ow', h]
    have oot : ∀ b, g.ow b = .other → ow' b = .other := fun b h => by simp only [ow', h]
    have obx : ∀ b k, g.ow b = .box k → ow' b = .box k := fun b k h => by simp only [ow', h]
    refine ⟨{ g with ow := ow' }, hc.setPlace (t := .sl true z xs) (y := .sl false z (T.viewR xs)) hp.at ⟨Nat.le_refl _, fun b _ h => ⟨ofz b h, rfl⟩, fun _ _ _ h => ⟨h, fun _ => rfl⟩, fun _ _ => rfl⟩
      (fun r' c' _ hne => ⟨fun b p _ h => ⟨?_, rfl⟩, fun _ => rfl⟩) (fun b k _ h => ⟨obx b k h, rfl⟩) (fun b hb => ⟨by rw [(hc.glob b hb).1]; exact oot b (hc.glob b hb).1, rfl⟩) (Nat.le_refl _) fun u hu => ?_, Gh.move_same rfl (fun b => ⟨fun h => ?_, obx b⟩) rfl fun _ _ _ _ => rfl⟩
    · simp only [ow', h]
      rw [if_neg hne]
    · have := hu.freeze (g' := { g with ow := ow' }) (Nat.le_refl _) (fun b _ h => ofz b h) fun b a' _ ha h => by
        simp only [ow', h]
        rw [if_pos ⟨ha.1, ha.2.1⟩]
      exact .fro this
    · rcases h with h | h
      · exact (ofz b h).trans h.symm
      · exact (oot b h).trans h.symm
  · rename_i q d hx
    obtain ⟨hp, hk⟩ := cellP_is hr hx
    split
    · exact ⟨g, hc, Move.refl _ _⟩
    · rename_i hcond
      simp only [Bool.or_eq_true, Bool.and_eq_true, beq_iff_eq, bne_iff_ne, ne_eq, not_or, Bool.not_eq_true, Decidable.not_not] at hcond
      obtain ⟨⟨hne, hdq⟩, hrq⟩ := hcond
      split
      · rename_i z xs hq
        obtain ⟨hpq, hkq⟩ := cellP_is hrq hq
        have hpi : PlaceIs s.sg q d (.sl true z xs) := ⟨hpq.at, hdq⟩
        obtain ⟨hc1, v, hv, hv'⟩ := hc.take1 hpi (p := []) (x := .sl true z xs) rfl ⟨.ret, 0, []⟩ (fun h => h)
        have hc1 : Core E (s.sg.setP q d (.t .top)) tmps w (g.reg ⟨q, d, []⟩ ⟨.ret, 0, []⟩) := hc1
        have hp1 : PlaceC (s.sg.setP q d (.t .top)) r c (.ref ⟨q, d, []⟩) := hpq.hole hp fun e => hne ⟨e.1.symm, e.2.symm⟩
        have hv0 : v = g.hd ⟨q, d, []⟩ := hv.own_hd
        generalize hg1 : g.reg ⟨q, d, []⟩ ⟨.ret, 0, []⟩ = g1 at hc1 hv'
        have hhd1 : ∀ a : CA, a.root ≠ .ret → g1.hd a = g.hd a := fun a ha => by rw [← hg1]; exact Gh.reg_hd _ _ _ fun e => ha e.1
        have hm1 : Move w g w g1 := by rw [← hg1]; exact Gh.reg_move w g _ _ fun k e => by cases e
        let d1 : Dirt := fun r' j => ((r, c) :: s.di).contains (r', j)
        have hdirt : (s.sg.setP q d (.t .top)).dirty = s.sg.dirty := Sg.setP_dirty _ _ _ _
        have hc2 := hc1.dirtier d1 fun r' j h => by rw [hdirt]; exact dirt_mono h
        have hexr : ∀ q', Sg.ex { s.sg.setP q d (.t .top) with dirty := d1 } q' → q' ≠ .ret := fun q' h e => by rw [e] at h; exact h
        have hrne := hp.nret
        have hc3 := hc2.setHd (g' := g1.reg ⟨.ret, 0, []⟩ ⟨r, c, []⟩) (t := .sl true z xs) (hp1.dirt d1) (by simp [d1]) rfl rfl (fun b => ⟨fun r' c' p hr' hn h => ?_, fun h => ?_, fun k h => Gh.reg_box _ _ _ h⟩) (fun r' c' p hr' hn => Gh.reg_hd _ _ _ fun e => hn e) (fun u hu => ?_)
        · have hdi : ((s.setP q d (.t .top)).setP r c (.t (.sl true z xs))).di = s.di := by
            have e1 : ∀ (s : St) (r : Root) (c : Nat) (x : C), (s.setP r c x).di = s.di := fun s r c x => by cases r <;> simp only [St.setP] <;> repeat (first | rfl | split)
            rw [e1, e1]
          refine ⟨g1.reg ⟨.ret, 0, []⟩ ⟨r, c, []⟩, ?_, hm1.trans (Gh.reg_move w g1 _ _ fun k e => hk k e)⟩
          have he : ((((s.setP q d (.t .top)).setP r c (.t (.sl true z xs))).dirt r c).dirt q d).sg = { (Sg.setP { s.sg.setP q d (.t .top) with dirty := d1 } r c (.t (.sl true z xs))) with dirty := fun r' j => ((q, d) :: (r, c) :: s.di).contains (r', j) } := by
            have h2 : (((s.setP q d (.t .top)).setP r c (.t (.sl true z xs))).dirt r c).di = (r, c) :: s.di := by simp only [St.dirt, hdi]
            rw [dirt_sg, h2, dirt_sg, St.setP_sg, St.setP_sg]
            cases r <;> rfl
          rw [he]
          refine hc3.dirtier _ fun r' j h => ?_
          rw [Sg.setP_dirty]
          simp only [List.contains_cons, Bool.or_eq_false_iff] at h
          simp only [d1, List.contains_cons, Bool.or_eq_false_iff]
          exact h.2
        · simp only [Gh.reg, h]
          rw [if_neg (not_under_of_ne (a := ⟨r', c', p⟩) fun e => hexr r' hr' e.1), if_neg (not_under_of_ne (a := ⟨r', c', p⟩) hn)]
        · rcases h with h | h <;> simp [Gh.reg, h]
        · have hu : u = v := by
            cases hu with
            | ref h _ =>
              have hd1 : d1 q d = false := by
                simp only [d1, List.contains_cons, Bool.or_eq_false_iff]
                refine ⟨?_, hdq⟩
                simp only [beq_eq_false_iff_ne, ne_eq, Prod.mk.injEq]
                exact fun e => hne ⟨e.1, e.2⟩
              rw [h hd1, hv0]
              exact hhd1 _ hpq.nret
          rw [hu]
          exact hv'.reg
      · exact ⟨g, hc, Move.refl _ _⟩
  · exact ⟨g, hc, Move.refl _ _⟩
theorem rtOf_rtOf (s : St) (r : Root) : s.rtOf (s.rtOf r) = s.rtOf r := by
  have slot : ∀ n, s.rtOf (rt n (s.isnew n)) = rt n (s.isnew n) := by
    intro n
    unfold rt
    split <;> simp only [St.rtOf, rt, *] <;> simp
  cases r with
  | slot n => exact slot n
  | new n => exact slot n
  | _ => rfl
theorem Core.weak {E : Env} {tmps : Array Value} {w : World} (id : Nat) : ∀ (l : List (Nat × Root × Nat × GA)) {s : St} {g : Gh}, Core E s.sg tmps w g → ∃ g', Core E (s.weak id l).sg tmps w g' ∧ Move w g w g'
  | [], s, g, hc => ⟨g, hc, Move.refl _ _⟩
  | (i, r, c, a) :: l, s, g, hc => by
    simp only [St.weak]
    split
    · obtain ⟨g1, h1, m1⟩ := hc.ga (rtOf_rtOf s r) c a
      obtain ⟨g2, h2, m2⟩ := Core.weak id l h1
      exact ⟨g2, h2, m1.trans m2⟩
    · exact Core.weak id l hc
theorem slot_may {E : Env} {s : St} {a : Act} {w : World} {g : Gh} (hc : Core E s.sg a.tmps w g) {c : Nat} {p q : Prop} (h : s.slot c = .c (.t (.may p q))) : ∃ b, a.eval (.tmp c) = .bool b ∧ (b = true → p) ∧ (b = false → q) := by
  have := hc.slots c
  have h : s.sg.slot c = .c (.t (.may p q)) := h
  rw [h] at this
  have hv : a.eval (.tmp c) = a.tmps.getD c undef := rfl
  rw [hv]
  generalize a.tmps.getD c undef = v at this
  cases this with | c this => cases this with | t this => cases this with | fro this => cases this with | may h1 h2 => exact ⟨_, rfl, h1, h2⟩

theorem awp_ok {E : Env} {N : Nat} {R : Rel} {keep : Kp} (hmix : E.P.follows .mixedOrders = true) (h1 : Step1OK E N R) : ∀ (c : Code) (Q : AX → St → Prop) (s : St) (a : Act) (w : World) (g : Gh), okCode N c = true → awp E.P R keep c Q s →
    Core E s.sg a.tmps w g → a.tmps.size = N → LIM ≤ g.lim → ∀ (a0 : Act) (w0 : World) (g0 : Gh), Move w0 g0 w g → a.defers = a0.defers → c.wp E.P (At E N a0 w0 g0 Q) a w := by
  intro c
  induction c with
  | skip =>
    intro Q s a w g _ h hc hs hl a0 w0 g0 hm hd
    exact wp_skip ⟨.normal, s, g, rfl, h, hc, hm, hs, hd⟩
  | region id ops draw =>
    intro Q s a w g hok h hc hs hl a0 w0 g0 hm hd
    simp only [awp] at h
    simp only [okCode, Array.all_eq_true] at hok
    refine region_wp (K := fun s => Q .normal ((s.weak id keep.2).fix keep.1)) hmix (fun i o an us rd hi => step_sound h1 hi ?_ an us rd) h hc hs hl fun s' a' w' g' hq hc' hm' hs' hd' => ?_
    · obtain ⟨hlt, e⟩ := Array.getElem?_eq_some_iff.1 hi
      rw [← e]; exact hok i hlt
    · obtain ⟨gw, hcw, mw⟩ := Core.weak id keep.2 hc'
      obtain ⟨f1, f2⟩ := hcw.fix keep.1
      exact ⟨.normal, _, _, rfl, hq, f1, ((hm.trans hm').trans mw).trans f2, hs', hd'.trans hd⟩
  | seq x y ihx ihy =>
    intro Q s a w g hok h hc hs hl a0 w0 g0 hm hd
    simp only [awp] at h
    simp only [okCode, Bool.and_eq_true] at hok
    refine wp_seq (wp_mono (ihx _ s a w g hok.1 h hc hs hl a0 w0 g0 hm hd) fun e a1 w1 hq => ?_)
    obtain ⟨ax, s1, g1, rfl, hq, hc1, hm1, hs1, hd1⟩ := hq
    cases ax with
    | normal =>
      exact ihy Q s1 a1 w1 g1 hok.2 hq hc1 hs1 (by rw [hm1.lim, ← hm.lim]; exact hl) a0 w0 g0 hm1 hd1
    | exit id => exact ⟨.exit id, s1, g1, rfl, hq, hc1, hm1, hs1, hd1⟩
    | ret => exact ⟨.ret, s1, g1, rfl, hq, hc1, hm1, hs1, hd1⟩
  | cond cnd x y ihx ihy =>
    intro Q s a w g hok h hc hs hl a0 w0 g0 hm hd
    simp only [okCode, Bool.and_eq_true] at hok
    cases cnd with
    | tmp n =>
      simp only [awp] at h
      split at h
      · rename_i t hsl
        have hv : a.eval (.tmp n) = .bool t := slot_bool hc hsl
        refine wp_cond_split hv (fun ht => ihx Q s a w g hok.1 (h.1 ht) hc hs hl a0 w0 g0 hm hd) (fun ht => ihy Q s a w g hok.2 (h.2 ht) hc hs hl a0 w0 g0 hm hd)
      · rename_i p q hsl
        obtain ⟨b, hv, h1, h2⟩ := slot_may hc hsl
        exact wp_cond_split hv (fun ht => ihx Q s a w g hok.1 (h.1 (h1 ht)) hc hs hl a0 w0 g0 hm hd) (fun ht => ihy Q s a w g hok.2 (h.2 (h2 ht)) hc hs hl a0 w0 g0 hm hd)
      · exact h.elim
    | const v =>
      cases v with
      | bool t =>
        simp only [awp] at h
        exact wp_cond_split (t := t) rfl (fun ht => ihx Q s a w g hok.1 (h.1 ht) hc hs hl a0 w0 g0 hm hd) (fun ht => ihy Q s a w g hok.2 (h.2 ht) hc hs hl a0 w0 g0 hm hd)
      | _ => exact h.elim
    | func f => exact h.elim
    | global f => exact h.elim
  | block id x ih =>
    intro Q s a w g hok h hc hs hl a0 w0 g0 hm hd
    simp only [awp] at h
    simp only [okCode] at hok
    refine wp_block (wp_mono (ih _ s a w g hok h hc hs hl a0 w0 g0 hm hd) fun e a1 w1 hq => ?_)
    obtain ⟨ax, s1, g1, rfl, hq, hc1, hm1, hs1, hd1⟩ := hq
    cases ax with
    | normal => exact ⟨.normal, s1, g1, rfl, hq, hc1, hm1, hs1, hd1⟩
    | exit j =>
      simp only at hq
      show Exit.inBlock id _ (.exit j) a1 w1
      simp only [Exit.inBlock]
      by_cases hj : j = id
      · rw [if_pos hj] at hq ⊢
        exact ⟨.normal, s1, g1, rfl, hq, hc1, hm1, hs1, hd1⟩
      · rw [if_neg hj] at hq ⊢
        exact ⟨.exit j, s1, g1, rfl, hq, hc1, hm1, hs1, hd1⟩
    | ret => exact ⟨.ret, s1, g1, rfl, hq, hc1, hm1, hs1, hd1⟩
  | loop x ih =>
    intro Q s a w g hok h hc hs hl a0 w0 g0 hm hd
    simp only [awp, aloop] at h
    simp only [okCode] at hok
    obtain ⟨kl, ol, I, ⟨n0, hn0⟩, hround⟩ := h
    let J : Nat → Act → World → Prop := fun n a w => ∃ s g, I n s ∧ Core E s.sg a.tmps w g ∧ Move w0 g0 w g ∧ a.tmps.size = N ∧ a.defers = a0.defers
    let μ : Act → World → Nat := fun a w => if h : ∃ n, J n a w then choose (least (p := fun n => J n a w) (choose h) (choose_spec h)) else 0
    have hμ : ∀ {n a w}, J n a w → J (μ a w) a w ∧ μ a w ≤ n := by
      intro n a w hJ
      have hex : ∃ n, J n a w := ⟨n, hJ⟩
      simp only [μ]
      rw [dif_pos hex]
      have := choose_spec (least (p := fun n => J n a w) (choose hex) (choose_spec hex))
      exact ⟨this.1, this.2 n hJ⟩
    refine wp_loop (fun a w => ∃ n, J n a w) μ ⟨n0, s.only kl ol, g, hn0, hc.only kl ol, hm, hs, hd⟩ fun a1 w1 hJ => ?_
    obtain ⟨n, hJ⟩ := hJ
    obtain ⟨⟨s1, g1, hI1, hc1, hm1, hs1, hd1⟩, hle⟩ := hμ hJ
    refine wp_mono (ih _ s1 a1 w1 g1 hok (hround _ s1 hI1) hc1 hs1 (by rw [hm1.lim, ← hm.lim]; exact hl) a0 w0 g0 hm1 hd1) fun e a2 w2 hq => ?_
    obtain ⟨ax, s2, g2, rfl, hq, hc2, hm2, hs2, hd2⟩ := hq
    cases ax with
    | normal =>
      obtain ⟨m, hlt, hIm⟩ := hq
      have hJ2 : J m a2 w2 := ⟨s2.only kl ol, g2, hIm, hc2.only kl ol, hm2, hs2, hd2⟩
      exact ⟨⟨m, hJ2⟩, Nat.lt_of_le_of_lt (hμ hJ2).2 hlt⟩
    | exit id => exact ⟨.exit id, s2, g2, rfl, hq, hc2, hm2, hs2, hd2⟩
    | ret => exact ⟨.ret, s2, g2, rfl, hq, hc2, hm2, hs2, hd2⟩
  | exit id =>
    intro Q s a w g _ h hc hs hl a0 w0 g0 hm hd
    exact wp_exit ⟨.exit id, s, g, rfl, h, hc, hm, hs, hd⟩
  | ret =>
    intro Q s a w g _ h hc hs hl a0 w0 g0 hm hd
    exact wp_ret ⟨.ret, s, g, rfl, h, hc, hm, hs, hd⟩
  | _ => intro Q s a w g _ h; exact h.elim
end Vx

namespace Vx
open Go Classical
set_option linter.unusedSimpArgs false
set_option linter.unusedVariables false

/-! ## Functions -/
def numbered {α : Type} : Nat → List α → List (Nat × α)
  | _, [] => []
  | n, x :: l => (n, x) :: numbered (n + 1) l
def obsOf : Nat → List AR → List (Nat × List C)
  | _, [] => []
  | k, .box row :: l => (k, row) :: obsOf (k + 1) l
  | k, .mbox row :: l => (MADE, row) :: obsOf (k + 1) l
  | k, _ :: l => obsOf (k + 1) l
def visOf : Nat → List AR → List (Nat × C)
  | _, [] => []
  | k, .virt x :: l => (k, .t x) :: visOf (k + 1) l
  | k, _ :: l => visOf (k + 1) l
def mpsOf : Nat → List AR → List (Nat × List (T × T))
  | _, [] => []
  | k, .map es :: l => (k, es) :: mpsOf (k + 1) l
  | k, .mmap es :: l => (MADE, es) :: mpsOf (k + 1) l
  | k, _ :: l => mpsOf (k + 1) l
/-- The state at a function's entry; with no arguments, what it hands back. -/
def entrySt (fa : List SV) (rs : List AR) : St := ⟨numbered 0 fa, [], obsOf 0 rs, visOf 0 rs, mpsOf 0 rs, []⟩
abbrev noDirt : Dirt := fun _ _ => false
/-- What a function returns: `fa` the arguments, `rs` what is lent, `res` the result, `out` what is handed back. -/
def Returns (E : Env) (f : Nat) (fa : List SV) (rs : List AR) (res : SV) (out : List AR) : Prop :=
  (∀ (vals : Array Value) (w : World), (callFunc f vals).run E.P w = .ok (.enter f vals) w) ∧ ∀ (w : World) (g : Gh) (vals : Array Value), LIM ≤ g.lim → vals.size = fa.length → Core E (entrySt fa rs).sg vals w g →
    Calls E.P f vals w fun e w' => match e with
      | .returned v => ∃ g', SVRep w' g' noDirt .ret 0 res v ∧ Core E (entrySt [] out).sg #[] w' g' ∧ Move w g w' g'
      | _ => False

theorem lk_numbered {α : Type} : ∀ (l : List α) (n m : Nat), lk m (numbered n l) = if n ≤ m then l[m - n]? else none
  | [], n, m => by simp [numbered, lk]
  | x :: l, n, m => by
    simp only [numbered, lk, lk_numbered l]
    by_cases e : m = n
    · subst e; simp
    · rw [if_neg e]
      by_cases h : n ≤ m
      · rw [if_pos (by omega), if_pos h, show m - n = (m - (n + 1)) + 1 by omega]; simp
      · rw [if_neg (by omega), if_neg h]
theorem entry_slot (fa : List SV) (rs : List AR) (n : Nat) : (entrySt fa rs).slot n = (fa[n]?).getD (.c (.t .top)) := by
  show (lk n (numbered 0 fa)).getD _ = _
  rw [lk_numbered]; simp

/-- The results of a function, taken. -/
def takeRow (agg : Bool) (row : List C) (f : SV → List Upd → Rd Eff) : Rd Eff :=
  takeL row fun l us => if agg then f (.agg (l.map C.t)) us else match l with
    | [x] => f (.c (.t x)) us
    | _ => fail
def resRd (P : Program) : List ResultVar → (List SV → List Upd → Rd Eff) → Rd Eff
  | [], f => f [] []
  | .tmp t :: r, f => rdS (.tmp t) fun sv => match sv with
    | .c y => takeRow false [y] fun x us => resRd P r fun svs vs => f (x :: svs) (us ++ vs)
    | .agg row => takeRow true row fun x us => resRd P r fun svs vs => f (x :: svs) (us ++ vs)
    | .tup _ => fail
  | .cell a ty :: r, f => match tinfo P ty with
    | none => fail
    | some i => rdS (.tmp a) fun sv => match sv with
      | .c (.ptr ⟨.obj k, c, []⟩) => .kind k fun kd => match kd with
        | some (.box m) => if c + i.size ≤ m ∧ (i.agg = true ∨ i.size = 1) then readCells k c i.size fun row => takeRow i.agg row fun x us => resRd P r fun svs vs => f (x :: svs) (us ++ vs) else fail
        | _ => fail
      | _ => fail
def pack : List SV → SV
  | [x] => x
  | l => .tup l
/-- What a box that was lent may hold at the end. -/
def C.lat : C → Bool
  | .t _ => true
  | .mp k => decide (k < 1000)
  | _ => false
def outOK : Nat → List AR → St → Prop
  | _, [], _ => True
  | k, .box row :: l, s => lk k s.ob = some row ∧ row.all C.lat = true ∧ outOK (k + 1) l s
  | k, .virt x :: l, s => lk k s.ob = none ∧ lk k s.vi = some (.t x) ∧ outOK (k + 1) l s
  | k, .map es :: l, s => lk k s.mp = some es ∧ outOK (k + 1) l s
  | _, _ :: _, _ => False
def fnPost (P : Program) (ts : List ResultVar) (res : SV) (out : List AR) (s : St) : Prop :=
  (resRd P ts fun svs us => if distinct (keysOf us) then .ret ⟨pack svs = res, us⟩ else fail).go s [] fun e _ => e.ok ∧ outOK 0 out (s.upds e.upd)

def packV : List Value → Value
  | [v] => v
  | vs => .tuple vs.toArray
def rvRuns (P : Program) (w : World) (tmps : Array Value) (rv : ResultVar) (v : Value) : Prop :=
  (match rv with
    | .tmp t => pure (tmps.getD t undef)
    | .cell a t => do loadVar t (← asAddr (tmps.getD a undef)) : Sem Value).run P w = .ok v w
theorem mapM_runs {α : Type} {P : Program} {w : World} (f : α → Sem Value) : ∀ {l : List α} {vs : List Value}, F2 (fun x v => (f x).run P w = .ok v w) l vs → (l.mapM f).run P w = .ok vs w
  | [], _, h => by cases h; simp
  | x :: l, _, h => by
    cases h with
    | cons h t => simp only [List.mapM_cons, Sem.run_bind, h, Result.andThen_ok, mapM_runs f t, Sem.run_pure]
theorem run_results {P : Program} {fn : Func} {tmps : Array Value} {w : World} {vs : List Value} (h : F2 (rvRuns P w tmps) fn.results.toList vs) : (results fn tmps).run P w = .ok (packV vs) w := by
  unfold results
  have he : fn.results = fn.results.toList.toArray := by simp
  rw [he]
  simp only [List.mapM_toArray, Sem.run_bind, Sem.run_map]
  rw [mapM_runs (vs := vs) _ (h.mono fun x v hx => by unfold rvRuns at hx; cases x <;> exact hx)]
  simp only [Result.andThen_ok]
  rcases vs with _ | ⟨v, _ | ⟨u, vs⟩⟩
  · simp [packV]
  · simp [packV]
  · simp [packV]

/-- A result as it stands before it is taken. -/
def RVok (P : Program) (σ : Sg) (rv : ResultVar) (sv : SV) : Prop :=
  (∀ row, sv.row = some row → ∀ y ∈ row, y.isOwn = false) ∧ ∀ (E : Env) (tmps : Array Value) (w : World) (g : Gh), E.P = P → Core E σ tmps w g →
    (∀ r ∈ sv.roots, σ.ex r) ∧ ∃ v, rvRuns P w tmps rv v ∧ SVRep w g σ.dirty .ret 0 sv v
inductive ResT (P : Program) (σ : Sg) : List ResultVar → List SV → List C → List C → List Upd → Prop where
  | nil : ResT P σ [] [] [] [] []
  | c {t r y x us svs l l' vs} (hy : RVok P σ t (.c y)) (ht : TkL σ [y] [.t x] us) (h : ResT P σ r svs l l' vs) : ResT P σ (t :: r) (.c (.t x) :: svs) (y :: l) (.t x :: l') (us ++ vs)
  | agg {t r row us svs l l' vs} {xs : List T} (hy : RVok P σ t (.agg row)) (ht : TkL σ row (xs.map C.t) us) (h : ResT P σ r svs l l' vs) : ResT P σ (t :: r) (.agg (xs.map C.t) :: svs) (row ++ l) (xs.map C.t ++ l') (us ++ vs)
theorem ResT.tk {P : Program} {σ : Sg} {ts : List ResultVar} {svs : List SV} {l l' : List C} {us : List Upd} (h : ResT P σ ts svs l l' us) : TkL σ l l' us := by
  induction h with
  | nil => exact .nil
  | c hy ht h ih => exact ht.append ih
  | agg hy ht h ih => exact ht.append ih
theorem takeRow_ok {σ : Sg} {agg : Bool} {row : List C} {f : SV → List Upd → Rd Eff} (h : ((takeRow agg row f).run σ).ok) : ∃ xs us, TkL σ row (xs.map C.t) us ∧ ((agg = true ∧ (takeRow agg row f).run σ = (f (.agg (xs.map C.t)) us).run σ) ∨
    (agg = false ∧ ∃ x, xs = [x] ∧ (takeRow agg row f).run σ = (f (.c (.t x)) us).run σ)) := by
  unfold takeRow at h ⊢
  obtain ⟨xs, us, h1, h2⟩ := takeL_ok h
  rw [h2] at h ⊢
  refine ⟨xs, us, h1, ?_⟩
  cases agg with
  | true => exact .inl ⟨by simp, rfl⟩
  | false =>
    right
    simp only [Bool.false_eq_true, if_false] at h ⊢
    rcases xs with _ | ⟨x, _ | ⟨z, xs⟩⟩
    · exact h.elim
    · exact ⟨by simp, x, rfl, rfl⟩
    · exact h.elim
theorem resRd_row {P : Program} {σ : Sg} {rv : ResultVar} {ts : List ResultVar} {agg : Bool} {row : List C} {f : List SV → List Upd → Rd Eff}
    (ih : ∀ {f : List SV → List Upd → Rd Eff}, ((resRd P ts f).run σ).ok → ∃ svs l l' us, ResT P σ ts svs l l' us ∧ (resRd P ts f).run σ = (f svs us).run σ)
    (hrv : (agg = true → RVok P σ rv (.agg row)) ∧ (agg = false → ∀ y, row = [y] → RVok P σ rv (.c y)))
    (h : ((takeRow agg row fun x us => resRd P ts fun svs vs => f (x :: svs) (us ++ vs)).run σ).ok) :
    ∃ svs l l' us, ResT P σ (rv :: ts) svs l l' us ∧ (takeRow agg row fun x us => resRd P ts fun svs vs => f (x :: svs) (us ++ vs)).run σ = (f svs us).run σ := by
  obtain ⟨xs, us, h1, h2⟩ := takeRow_ok h
  rcases h2 with ⟨ha, h2⟩ | ⟨ha, x, rfl, h2⟩
  · rw [h2] at h ⊢
    obtain ⟨svs, l, l', vs, h3, h4⟩ := ih h
    exact ⟨_, _, _, _, .agg (hrv.1 ha) h1 h3, h4⟩
  · rw [h2] at h ⊢
    obtain ⟨svs, l, l', vs, h3, h4⟩ := ih h
    have hlen := h1.length
    simp at hlen
    obtain ⟨y, rfl⟩ : ∃ y, row = [y] := List.length_eq_one_iff.1 hlen.symm
    exact ⟨_, _, _, _, .c (hrv.2 ha y rfl) h1 h3, h4⟩
theorem tmp_rv {P : Program} {σ : Sg} {t : Tmp} {sv : SV} (h : (σ.slot t).alias (σ.rt t) = sv) : RVok P σ (.tmp t) sv := by
  subst h
  refine ⟨fun row hrow y hy => ?_, fun E tmps w g _ hc => ⟨fun r hr => ?_, tmps.getD t undef, rfl, (hc.slots t).alias (hc.flat t) .ret⟩⟩
  · cases hs : σ.slot t with
    | c x => rw [hs] at hrow; cases hrow; simp at hy; subst hy; exact C.alias_isOwn _ _
    | agg l =>
      rw [hs] at hrow; cases hrow
      obtain ⟨j, hj⟩ := List.getElem?_of_mem hy
      obtain ⟨z, _, e⟩ := aliasFrom_get hj
      rw [e]; exact C.alias_isOwn _ _
    | tup l => rw [hs] at hrow; cases hrow
  · rcases SV.alias_roots _ _ r hr with h | h
    · rw [h]; exact σ.rt_ex t
    · exact hc.liveS t r h
theorem box_cells {E : Env} {σ : Sg} {tmps : Array Value} {w : World} {g : Gh} (hc : Core E σ tmps w g) {k m c n : Nat} (hk : σ.kind k = some (.box m)) (hle : c + n ≤ m) : ∃ vs : Nat → Value, ∀ j, j < n →
    w.cell? ⟨(g.bl k).1, (g.bl k).2.1 + c + j, none⟩ = some (vs j) ∧ CRep w g σ.dirty ⟨.obj k, c + j, []⟩ (σ.cell k (c + j)) (vs j) := by
  obtain ⟨cs, el, b1, b2, b3, b4, b5⟩ := hc.objs k _ hk
  have hch : ∀ j, ∃ u, j < n → cs[(g.bl k).2.1 + (c + j)]? = some u ∧ CRep w g σ.dirty ⟨.obj k, c + j, []⟩ (σ.cell k (c + j)) u := by
    intro j
    by_cases e : j < n
    · obtain ⟨u, h1, h2⟩ := b5 (c + j) (by omega)
      exact ⟨u, fun _ => ⟨h1, h2⟩⟩
    · exact ⟨undef, fun e' => absurd e' e⟩
  refine ⟨fun j => choose (hch j), fun j hj => ?_⟩
  obtain ⟨h1, h2⟩ := choose_spec (hch j) hj
  exact ⟨by rw [cell_of b1, Nat.add_assoc]; exact h1, h2⟩
theorem box_row_ok {E : Env} {σ : Sg} {tmps : Array Value} {w : World} {g : Gh} (hc : Core E σ tmps w g) {k m c n : Nat} (hk : σ.kind k = some (.box m)) : (∀ y ∈ (List.range n).map fun j => (σ.cell k (c + j)).alias ⟨.obj k, c + j, []⟩, y.isOwn = false) ∧
    ∀ y ∈ (List.range n).map fun j => (σ.cell k (c + j)).alias ⟨.obj k, c + j, []⟩, ∀ r ∈ y.roots, σ.ex r := by
  refine ⟨fun y hy => ?_, fun y hy r hr => ?_⟩
  · obtain ⟨j, _, rfl⟩ := List.mem_map.1 hy
    exact C.alias_isOwn _ _
  · obtain ⟨j, _, rfl⟩ := List.mem_map.1 hy
    rcases C.alias_roots _ _ r hr with e | e
    · rw [e]; exact .inr (.inl (by rw [hk]; simp))
    · exact hc.liveC _ _ _ e
theorem cell_rv {P : Program} {σ : Sg} {a : Tmp} {ty : TypeId} {i : TI} (hi : tinfo P ty = some i) {k c m : Nat} (hs : (σ.slot a).alias (σ.rt a) = .c (.ptr ⟨.obj k, c, []⟩)) (hk : σ.kind k = some (.box m)) (hle : c + i.size ≤ m) :
    (i.agg = true → RVok P σ (.cell a ty) (.agg ((List.range i.size).map fun j => (σ.cell k (c + j)).alias ⟨.obj k, c + j, []⟩))) ∧
    (i.agg = false → ∀ y, ((List.range i.size).map fun j => (σ.cell k (c + j)).alias ⟨.obj k, c + j, []⟩) = [y] → RVok P σ (.cell a ty) (.c y)) := by
  have hptr : ∀ (E : Env) (tmps : Array Value) (w : World) (g : Gh), Core E σ tmps w g → tmps.getD a undef = .pointer (some ⟨(g.bl k).1, (g.bl k).2.1 + c, none⟩) := by
    intro E tmps w g hc
    have := (hc.slots a).alias (hc.flat a) .ret
    rw [hs] at this
    generalize tmps.getD a undef = v at this
    cases this with
    | c this =>
      obtain ⟨k', ek, hv⟩ := PRep.path_nil.1 (this.ptr_val (.inl rfl))
      cases ek
      exact hv
  refine ⟨fun ha => ⟨fun row hrow y hy => ?_, fun E tmps w g hP hc => ⟨fun r hr => ?_, ?_⟩⟩, fun ha y hy => ⟨fun row hrow z hz => ?_, fun E tmps w g hP hc => ⟨fun r hr => ?_, ?_⟩⟩⟩
  · cases hrow
    obtain ⟨j, _, rfl⟩ := List.mem_map.1 hy
    exact C.alias_isOwn _ _
  · simp only [SV.roots] at hr
    obtain ⟨z, hz, hr⟩ := C.mem_rootsL.1 hr
    exact (box_row_ok hc hk).2 z hz r hr
  · obtain ⟨vs, hvs⟩ := box_cells hc hk hle
    refine ⟨.agg ((List.range i.size).map vs).toArray, ?_, ?_⟩
    · have h1 := run_loadAt_agg (b := (g.bl k).1) (o := (g.bl k).2.1 + c) (w := w) hi ha vs (fun j hj => (hvs j hj).1)
      unfold rvRuns
      simp only [hptr E tmps w g hc]
      simpa [Instr.loadAt, Instr.sureAddr, asAddr] using h1
    · have := SVRep.agg (w := w) (g := g) (d := σ.dirty) (r := .ret) (n := 0) (row := (List.range i.size).map fun j => (σ.cell k (c + j)).alias ⟨.obj k, c + j, []⟩) vs (fun j x hj => by
        simp only [List.getElem?_map, Option.map_eq_some_iff] at hj
        obtain ⟨j', h1, rfl⟩ := hj
        have hjl := lt_of_getElem? h1
        simp at hjl
        rw [List.getElem?_range hjl] at h1
        cases h1
        exact ((hvs j hjl).2).alias _)
      simp only [List.length_map, List.length_range] at this
      exact this
  · cases hrow
    simp at hz
    subst hz
    have : z ∈ (List.range i.size).map fun j => (σ.cell k (c + j)).alias ⟨.obj k, c + j, []⟩ := by rw [hy]; simp
    obtain ⟨j, _, rfl⟩ := List.mem_map.1 this
    exact C.alias_isOwn _ _
  · have : y ∈ (List.range i.size).map fun j => (σ.cell k (c + j)).alias ⟨.obj k, c + j, []⟩ := by rw [hy]; simp
    exact (box_row_ok hc hk).2 y this r hr
  · have hlen := congrArg List.length hy
    simp at hlen
    obtain ⟨vs, hvs⟩ := box_cells hc hk hle
    obtain ⟨q1, q2⟩ := hvs 0 (by omega)
    refine ⟨vs 0, ?_, ?_⟩
    · have h1 := run_loadAt_scalar (b := (g.bl k).1) (o := (g.bl k).2.1 + c) (w := w) hi ha q1
      unfold rvRuns
      simp only [hptr E tmps w g hc]
      simpa [Instr.loadAt, Instr.sureAddr, asAddr] using h1
    · rw [hlen] at hy
      simp at hy
      rw [← hy]
      exact .c (q2.alias _)
theorem resRd_ok {P : Program} {σ : Sg} : ∀ {ts : List ResultVar} {f : List SV → List Upd → Rd Eff}, ((resRd P ts f).run σ).ok → ∃ svs l l' us, ResT P σ ts svs l l' us ∧ (resRd P ts f).run σ = (f svs us).run σ
  | [], f, h => ⟨[], [], [], [], .nil, rfl⟩
  | .tmp t :: ts, f, h => by
    simp only [resRd, rdS, Rd.run] at h ⊢
    have hrt : Vx.rt t (σ.isnew t) = σ.rt t := rfl
    rw [hrt] at h ⊢
    cases hsv : (σ.slot t).alias (σ.rt t) with
    | c y =>
      rw [hsv] at h
      simp only at h ⊢
      exact resRd_row (rv := .tmp t) resRd_ok ⟨fun e => (by cases e), fun _ z hz => by cases hz; exact tmp_rv hsv⟩ h
    | agg row =>
      rw [hsv] at h
      simp only at h ⊢
      exact resRd_row (rv := .tmp t) resRd_ok ⟨fun _ => tmp_rv hsv, fun e => (by cases e)⟩ h
    | tup l => rw [hsv] at h; exact h.elim
  | .cell a ty :: ts, f, h => by
    simp only [resRd] at h ⊢
    cases hi : tinfo P ty with
    | none => rw [hi] at h; exact h.elim
    | some i =>
      rw [hi] at h
      simp only [rdS, Rd.run] at h ⊢
      have hrt : Vx.rt a (σ.isnew a) = σ.rt a := rfl
      rw [hrt] at h ⊢
      cases hsv : (σ.slot a).alias (σ.rt a) with
      | c y =>
        rw [hsv] at h
        cases y with
        | ptr p =>
          obtain ⟨r, c, q⟩ := p
          cases r with
          | obj k =>
            cases q with
            | nil =>
              simp only [Rd.run] at h ⊢
              cases hk : σ.kind k with
              | none => rw [hk] at h; exact h.elim
              | some kd =>
                cases kd with
                | virt => rw [hk] at h; exact h.elim
                | box m =>
                  rw [hk] at h
                  simp only at h ⊢
                  by_cases hle : c + i.size ≤ m ∧ (i.agg = true ∨ i.size = 1)
                  · rw [if_pos hle] at h ⊢
                    rw [readCells_run] at h ⊢
                    exact resRd_row (rv := .cell a ty) resRd_ok (cell_rv hi hsv hk hle.1) h
                  · rw [if_neg hle] at h; exact h.elim
            | cons _ _ => exact h.elim
          | _ => exact h.elim
        | _ => exact h.elim
      | agg row => rw [hsv] at h; exact h.elim
      | tup l => rw [hsv] at h; exact h.elim

/-- Where the results' cells go. -/
def posOf : Nat → List SV → List Nat
  | _, [] => []
  | i, .c _ :: r => 64 * i :: posOf (i + 1) r
  | i, .agg row :: r => List.range' (64 * i) row.length ++ posOf (i + 1) r
  | i, .tup _ :: r => posOf (i + 1) r
theorem ResT.vals {E : Env} {σ : Sg} {tmps : Array Value} {w : World} {g : Gh} (hc : Core E σ tmps w g) {ts : List ResultVar} {svs : List SV} {l l' : List C} {us : List Upd} (h : ResT E.P σ ts svs l l' us) :
    ∃ (vsL : List Value) (vsR : List Value), F2 (rvRuns E.P w tmps) ts vsR ∧ vsL.length = l.length ∧ (∀ (j : Nat) (x : C) (u : Value), l[j]? = some x → vsL[j]? = some u → (∃ a, CRep w g σ.dirty a x u) ∧ x.isOwn = false ∧ ∀ r ∈ x.roots, σ.ex r) ∧
      ∀ (g' : Gh) (d : Dirt) (i : Nat), (∀ (j : Nat) (x : C) (u : Value) (p : Nat), l'[j]? = some x → vsL[j]? = some u → (posOf i svs)[j]? = some p → CRep w g' d ⟨.ret, p, []⟩ x u) →
        ∀ (k : Nat) (sv : SV) (v : Value), svs[k]? = some sv → vsR[k]? = some v → SVRep w g' d .ret (64 * (i + k)) sv v := by
  induction h with
  | nil => exact ⟨[], [], .nil, rfl, by simp, by simp⟩
  | @c t r y x us svs l l' vs hy ht h ih =>
    obtain ⟨vsL, vsR, h0, h1, h2, h3⟩ := ih
    obtain ⟨hown, hy⟩ := hy
    obtain ⟨hroots, v, hrun, hx⟩ := hy E tmps w g rfl hc
    refine ⟨v :: vsL, v :: vsR, .cons hrun h0, by simp [h1], fun j z u hj hu => ?_, fun g' d i hcell k sv t' hk ht' => ?_⟩
    · cases j with
      | zero =>
        simp only [List.getElem?_cons_zero, Option.some.injEq] at hj hu
        subst hj hu
        cases hx with | c hx => exact ⟨⟨_, hx⟩, hown _ rfl _ (by simp), hroots⟩
      | succ j => exact h2 j z u (by simpa using hj) (by simpa using hu)
    · cases k with
      | zero =>
        simp only [List.getElem?_cons_zero, Option.some.injEq] at hk ht'
        subst hk ht'
        exact .c (hcell 0 _ _ _ rfl rfl rfl)
      | succ k =>
        have := h3 g' d (i + 1) (fun j z u p q1 q2 q3 => hcell (j + 1) z u p (by simpa using q1) (by simpa using q2) (by simpa [posOf] using q3)) k sv t' (by simpa using hk) (by simpa using ht')
        rw [show i + (k + 1) = i + 1 + k by omega]
        exact this
  | @agg t r row us svs l l' vs xs hy ht h ih =>
    obtain ⟨vsL, vsR, h0, h1, h2, h3⟩ := ih
    obtain ⟨hown, hy⟩ := hy
    obtain ⟨hroots, v, hrun, hx⟩ := hy E tmps w g rfl hc
    have hroots' : ∀ y ∈ row, ∀ q ∈ y.roots, σ.ex q := fun y hyr q hq => hroots q (by simp only [SV.roots]; exact C.mem_rootsL.2 ⟨y, hyr, hq⟩)
    cases hx with
    | agg vs0 hx =>
      have hlen : xs.length = row.length := by have := ht.length; simpa using this
      refine ⟨(List.range row.length).map vs0 ++ vsL, _ :: vsR, .cons hrun h0, by simp [h1], fun j z u hj hu => ?_, fun g' d i hcell k sv t' hk ht' => ?_⟩
      · by_cases hlt : j < row.length
        · rw [List.getElem?_append_left hlt] at hj
          rw [List.getElem?_append_left (by simpa using hlt)] at hu
          simp [hlt] at hu
          subst hu
          exact ⟨⟨_, hx j z hj⟩, hown _ rfl z (List.mem_of_getElem? hj), hroots' z (List.mem_of_getElem? hj)⟩
        · rw [List.getElem?_append_right (by omega)] at hj
          rw [List.getElem?_append_right (by simp; omega)] at hu
          simp only [List.length_map, List.length_range] at hu
          exact h2 _ z u hj hu
      · cases k with
        | zero =>
          simp only [List.getElem?_cons_zero, Option.some.injEq] at hk ht'
          subst hk ht'
          have := SVRep.agg (w := w) (g := g') (d := d) (r := .ret) (n := 64 * (i + 0)) (row := xs.map C.t) vs0 (fun j z hj => by
            have hlt := lt_of_getElem? hj
            simp only [List.length_map] at hlt
            refine hcell j z (vs0 j) _ ?_ ?_ ?_
            · rw [List.getElem?_append_left (by simpa using hlt)]; exact hj
            · have hlt' : j < row.length := by omega
              rw [List.getElem?_append_left (by simpa using hlt')]; simp [hlt']
            · simp only [posOf, List.length_map]
              rw [List.getElem?_append_left (by simpa using hlt), List.getElem?_range' hlt]
              simp)
          rw [List.length_map, hlen] at this
          exact this
        | succ k =>
          have := h3 g' d (i + 1) (fun j z u p q1 q2 q3 => hcell (row.length + j) z u p (by rw [List.getElem?_append_right (by simp [hlen])]; simpa [hlen] using q1) (by rw [List.getElem?_append_right (by simp)]; simpa using q2)
            (by simp only [posOf]; rw [List.getElem?_append_right (by simp [hlen])]; simpa [hlen] using q3)) k sv t' (by simpa using hk) (by simpa using ht')
          rw [show i + (k + 1) = i + 1 + k by omega]
          exact this
end Vx

namespace Vx
open Go Classical
set_option linter.unusedSimpArgs false
set_option linter.unusedVariables false

theorem ResT.lens {P : Program} {σ : Sg} {ts : List ResultVar} {svs : List SV} {l l' : List C} {us : List Upd} (h : ResT P σ ts svs l l' us) : svs.length = ts.length ∧ ∀ i, (posOf i svs).length = l'.length := by
  induction h with
  | nil => exact ⟨rfl, fun _ => rfl⟩
  | c hy ht h ih => exact ⟨by simp [ih.1], fun i => by simp [posOf, ih.2]⟩
  | agg hy ht h ih => exact ⟨by simp [ih.1], fun i => by simp [posOf, ih.2]⟩
theorem F2.length {α β : Type} {R : α → β → Prop} {l : List α} {m : List β} (h : F2 R l m) : l.length = m.length := by
  induction h <;> simp_all
theorem posOf_sorted : ∀ (svs : List SV) (i : Nat), (∀ x ∈ svs, ∀ row, x = .agg row → row.length ≤ 64) → (posOf i svs).Pairwise (· < ·) ∧ ∀ p ∈ posOf i svs, 64 * i ≤ p
  | [], i, _ => ⟨.nil, by simp [posOf]⟩
  | x :: svs, i, h => by
    obtain ⟨h1, h2⟩ := posOf_sorted svs (i + 1) fun y hy => h y (by simp [hy])
    cases x with
    | c y =>
      simp only [posOf]
      refine ⟨List.pairwise_cons.2 ⟨fun p hp => by have := h2 p hp; omega, h1⟩, fun p hp => ?_⟩
      rcases List.mem_cons.1 hp with e | e
      · omega
      · have := h2 p e; omega
    | agg row =>
      have hl := h _ (by simp) row rfl
      simp only [posOf]
      refine ⟨List.pairwise_append.2 ⟨List.pairwise_lt_range', h1, fun p hp q hq => ?_⟩, fun p hp => ?_⟩
      · have := h2 q hq
        have := List.mem_range'_1.1 hp
        omega
      · rcases List.mem_append.1 hp with e | e
        · have := List.mem_range'_1.1 e; omega
        · have := h2 p e; omega
    | tup l =>
      simp only [posOf]
      exact ⟨h1, fun p hp => by have := h2 p hp; omega⟩
theorem posOf_one (x : SV) : (posOf 0 [x]).Pairwise (· < ·) := by
  cases x with
  | c y => simp [posOf]
  | agg row => simp only [posOf, List.append_nil]; exact List.pairwise_lt_range'
  | tup l => simp [posOf]

theorem CRep.dirt {w : World} {g : Gh} {d d' : Dirt} {a : CA} {x : C} {v : Value} (h : CRep w g d a x v) (hx : x.lat = true) : CRep w g d' a x v := by
  cases h with
  | t h => exact .t h
  | mp h => exact .mp h
  | _ => cases hx

theorem Core.out {E : Env} {s : St} {tmps : Array Value} {w : World} {g : Gh} (hc : Core E s.sg tmps w g) {out : List AR} (h : outOK 0 out s) : Core E (entrySt [] out).sg #[] w g := by
  have hspec : ∀ (l : List AR) (n : Nat), outOK n l s → (∀ k row, lk k (obsOf n l) = some row → lk k s.ob = some row ∧ row.all C.lat = true) ∧ (∀ k x, lk k (visOf n l) = some x → lk k s.ob = none ∧ lk k s.vi = some x ∧ x.lat = true) ∧
      (∀ k es, lk k (mpsOf n l) = some es → lk k s.mp = some es) := by
    intro l
    induction l with
    | nil => intro n _; simp [obsOf, visOf, mpsOf, lk]
    | cons a l ih =>
      intro n h
      cases a with
      | mbox row => exact h.elim
      | mmap es => exact h.elim
      | box row =>
        obtain ⟨h1, h2, h3⟩ := h
        obtain ⟨i1, i2, i3⟩ := ih (n + 1) h3
        refine ⟨fun k r hk => ?_, i2, i3⟩
        simp only [obsOf, lk] at hk
        split at hk
        · rename_i e; subst e; cases hk; exact ⟨h1, h2⟩
        · exact i1 k r hk
      | virt x =>
        obtain ⟨h1, h2, h3⟩ := h
        obtain ⟨i1, i2, i3⟩ := ih (n + 1) h3
        refine ⟨i1, fun k r hk => ?_, i3⟩
        simp only [visOf, lk] at hk
        split at hk
        · rename_i e; subst e; cases hk; exact ⟨h1, h2, rfl⟩
        · exact i2 k r hk
      | map es =>
        obtain ⟨h1, h3⟩ := h
        obtain ⟨i1, i2, i3⟩ := ih (n + 1) h3
        refine ⟨i1, i2, fun k r hk => ?_⟩
        simp only [mpsOf, lk] at hk
        split at hk
        · rename_i e; subst e; cases hk; exact h1
        · exact i3 k r hk
  obtain ⟨h1, h2, h3⟩ := hspec out 0 h
  have hcell : ∀ k c, ((entrySt [] out).cell k c).lat = true := by
    intro k c
    simp only [St.cell, entrySt]
    cases ho : lk k (obsOf 0 out) with
    | some row =>
      have := (h1 k row ho).2
      simp only [List.all_eq_true] at this
      simp only [List.getD]
      cases hr : row[c]? with
      | none => rfl
      | some x => exact this x (List.mem_of_getElem? hr)
    | none =>
      cases hv : lk k (visOf 0 out) with
      | some x =>
        simp only
        split
        · exact (h2 k x hv).2.2
        · rfl
      | none => rfl
  refine ⟨fun n => .c (.t (.fro .top)), fun n => rfl, fun n r hr => ?_, fun k c r hr => ?_, fun k kd hk => ?_, fun k es hk => ?_, hc.glob, hc.size⟩
  · have hr : r ∈ ((entrySt [] out).slot n).roots := hr
    rw [entry_slot] at hr
    simp [SV.roots, C.roots] at hr
  · have hr : r ∈ ((entrySt [] out).cell k c).roots := hr
    have hd := hcell k c
    generalize (entrySt [] out).cell k c = x at hr hd
    cases x with
    | t x => simp [C.roots] at hr
    | mp j =>
      simp only [C.roots, List.mem_singleton] at hr
      simp only [C.lat, decide_eq_true_eq] at hd
      subst hr
      exact .inl (by omega)
    | _ => cases hd
  · have hk : (entrySt [] out).kind k = some kd := hk
    simp only [St.kind, entrySt] at hk
    cases ho : lk k (obsOf 0 out) with
    | some row =>
      rw [ho] at hk
      cases hk
      obtain ⟨q1, q2⟩ := h1 k row ho
      have base := hc.objs k (.box row.length) (by simp [St.sg, St.kind, q1])
      obtain ⟨cs, el, b1, b2, b3, b4, b5⟩ := base
      refine ⟨cs, el, b1, b2, b3, b4, fun c hcl => ?_⟩
      obtain ⟨u, u1, u2⟩ := b5 c hcl
      refine ⟨u, u1, ?_⟩
      have e : (entrySt [] out).sg.cell k c = s.sg.cell k c := by simp [St.sg, St.cell, entrySt, ho, q1]
      rw [e]
      refine u2.dirt ?_
      rw [← e]; exact hcell k c
    | none =>
      rw [ho] at hk
      cases hv : lk k (visOf 0 out) with
      | none => rw [hv] at hk; cases hk
      | some x =>
        rw [hv] at hk
        cases hk
        obtain ⟨q1, q2, q3⟩ := h2 k x hv
        obtain ⟨u, hu⟩ := hc.objs k .virt (by simp [St.sg, St.kind, q1, q2])
        have e : (entrySt [] out).sg.cell k 0 = s.sg.cell k 0 := by simp [St.sg, St.cell, entrySt, ho, q1, hv, q2]
        refine ⟨u, ?_⟩
        rw [e]
        refine hu.dirt ?_
        rw [← e]; exact hcell k 0
  · exact hc.maps k es (h3 k es hk)

theorem C.data_lat {x : C} (h : x.data = true) : x.lat = true := by cases x <;> first | rfl | cases h
theorem SVRep.dirt {w : World} {g : Gh} {d d' : Dirt} {r : Root} {n : Nat} {x : SV} {v : Value} (h : SVRep w g d r n x v) (hx : x.data = true) : SVRep w g d' r n x v := by
  have one : ∀ {n : Nat} {x : SV} {v : Value}, SVRep w g d r n x v → (match x with | .c x => x.data | .agg row => row.all C.data | .tup _ => false) = true → SVRep w g d' r n x v := by
    intro n x v h hx
    cases h with
    | c h => exact .c (h.dirt (C.data_lat hx))
    | agg vs h =>
      simp only [List.all_eq_true] at hx
      exact .agg vs fun j x hj => (h j x hj).dirt (C.data_lat (hx x (List.mem_of_getElem? hj)))
    | tup vs h => cases hx
  cases h with
  | c h => exact one (.c h) hx
  | agg vs h => exact one (.agg vs h) hx
  | tup vs h =>
    simp only [SV.data, List.all_eq_true] at hx
    refine .tup vs fun j x hj => one (h j x hj) ?_
    have := hx x (List.mem_of_getElem? hj)
    cases x with
    | c x => exact this
    | agg row => simp only [Bool.and_eq_true] at this; exact this.1
    | tup l => cases this

theorem Core.enter {E : Env} {σ : Sg} {w : World} {g : Gh} {vals : Array Value} (hc : Core E σ vals w g) (N : Nat) : Core E σ (vals ++ Array.replicate (N - vals.size) undef) w g := by
  refine Core.step hc (Keeps.refl _ _ _ _) (fun n => .inl ⟨rfl, rfl, ?_, fun c => Still.refl _ _ _ _⟩) (fun k kd h => .inl ⟨h, fun c => ⟨rfl, Still.refl _ _ _ _⟩, fun _ h => ⟨h, rfl⟩⟩) (fun k c => .inl rfl) (fun k es h => .inl ⟨h, fun _ h => ⟨h, rfl⟩⟩) (fun _ h => h) (fun b _ => ⟨rfl, rfl⟩) (Nat.le_refl _)
  simp only [Array.getD_eq_getD_getElem?]
  rcases Nat.lt_or_ge n vals.size with q | q
  · rw [Array.getElem?_append_left q]
  · rw [Array.getElem?_append_right q, Array.getElem?_eq_none q]
    rcases Nat.lt_or_ge (n - vals.size) (N - vals.size) with q2 | q2
    · simp [q2]
    · simp [Array.getElem?_eq_none, q2]
theorem fn_returns {E : Env} {f : Nat} {fn : Func} {c : Code} {keep : Kp} {fa : List SV} {rs : List AR} {res : SV} {out : List AR} (hmix : E.P.follows .mixedOrders = true) (hstep : Step1OK E fn.ntmps (Returns E))
    (hf : E.P.funcs[f]? = some fn) (hb : fn.body = some c) (hname : (fn.name == "runtime.NumGoroutine") = false) (hok : okCode fn.ntmps c = true) (hfa : fa.length ≤ fn.ntmps) (hd : res.data = true)
    (h : awp E.P (Returns E) keep c (fun ax s => match ax with | .exit _ => False | _ => fnPost E.P fn.results.toList res out s) (entrySt fa rs)) : Returns E f fa rs res out := by
  have hname' : ¬ fn.name = "runtime.NumGoroutine" := by simpa using hname
  refine ⟨fun vals w => by simp [callFunc, hf, hb, hname'], fun w g vals hl hsz hc => ?_⟩
  have hc0 := Core.enter hc fn.ntmps
  refine calls_of_wp hf hb (wp_mono (awp_ok hmix hstep c _ (entrySt fa rs) { tmps := vals ++ Array.replicate (fn.ntmps - vals.size) undef, defers := [] } w g hok h hc0 (by simp; omega) hl _ w g (Move.refl _ _) rfl) fun e a' w' hq => ?_)
  obtain ⟨ax, s, g', rfl, hq, hc1, hm, hs1, hd1⟩ := hq
  have hpost : ∀ (hq : fnPost E.P fn.results.toList res out s), a'.defers = [] ∧ ∃ v, (results fn a'.tmps).run E.P w' = .ok v w' ∧ ∃ g', SVRep w' g' noDirt .ret 0 res v ∧ Core E (entrySt [] out).sg #[] w' g' ∧ Move w g w' g' := by
    intro hq
    unfold fnPost at hq
    rw [Rd.go_iff] at hq
    obtain ⟨hq1, hq2⟩ := hq
    obtain ⟨svs, l, l', us, hR, he⟩ := resRd_ok hq1
    rw [he] at hq1 hq2
    by_cases hdi : distinct (keysOf us) = true
    · rw [if_pos hdi] at hq1 hq2
      have hpack : pack svs = res := hq1
      have hout : outOK 0 out (s.upds us) := hq2
      obtain ⟨hl1, hl2⟩ := hR.lens
      obtain ⟨vsL, vsR, vr, v1, v2, v3⟩ := hR.vals hc1
      have vlen : vsR.length = svs.length := by rw [hl1]; exact vr.length.symm
      have htk := hR.tk
      let i0 : Nat := match svs with | [_] => 0 | _ => 1
      have hsort : (posOf i0 svs).Pairwise (· < ·) := by
        rcases svs with _ | ⟨x, _ | ⟨y, svs⟩⟩
        · exact .nil
        · exact posOf_one x
        · refine (posOf_sorted _ _ fun z hz row hrow => ?_).1
          have hp : (SV.tup (x :: y :: svs)).data = true := by
            have : pack (x :: y :: svs) = .tup (x :: y :: svs) := rfl
            rw [← this, hpack]; exact hd
          simp only [SV.data, List.all_eq_true] at hp
          have := hp z hz
          subst hrow
          simp only [Bool.and_eq_true, decide_eq_true_eq] at this
          exact this.2
      have hpl : (posOf i0 svs).length = l.length := by rw [hl2, htk.length]
      obtain ⟨g2, tk, hcells⟩ := htk.core s.sg g' hc1 rfl rfl (fun _ _ _ _ h => h) hdi (fun j => ⟨.ret, (posOf i0 svs).getD j 0, []⟩) (fun j => vsL.getD j undef) (fun _ h => h) (fun i j hij hjl => by
        refine cell_apart _ ?_ _ _
        have hi' : i < (posOf i0 svs).length := by omega
        have hj' : j < (posOf i0 svs).length := by omega
        have := List.pairwise_iff_getElem.1 hsort i j hi' hj' hij
        simp only [List.getD, List.getElem?_eq_getElem hi', List.getElem?_eq_getElem hj', Option.getD_some]
        omega) (fun j x hj => by
        have hlt := lt_of_getElem? hj
        have hlt' : j < vsL.length := by omega
        refine v2 j x _ hj ?_
        simp [List.getD, List.getElem?_eq_getElem hlt'])
      have hparts := v3 g2 s.sg.dirty i0 (fun j x u p q1 q2 q3 => by
        have := hcells j x q1
        simp only [List.getD, q2, q3, Option.getD_some] at this
        exact this)
      refine ⟨hd1, packV vsR, run_results vr, g2, ?_, Core.out (s := s.upds us) (by rw [St.upds_sg]; exact tk.core) hout, hm.trans tk.move⟩
      refine SVRep.dirt (d := s.sg.dirty) ?_ hd
      rcases svs with _ | ⟨x, _ | ⟨y, svs⟩⟩
      · have : vsR = [] := List.length_eq_zero_iff.1 vlen
        subst this
        rw [← hpack]
        exact .tup (fun _ => undef) (by simp)
      · rcases vsR with _ | ⟨t, _ | ⟨u, vsR⟩⟩
        · cases vlen
        · have := hparts 0 x t rfl rfl
          rw [← hpack]
          exact this
        · simp at vlen
      · rcases vsR with _ | ⟨t, _ | ⟨u, vsR⟩⟩
        · cases vlen
        · simp at vlen
        · rw [← hpack]
          have := SVRep.tup (w := w') (g := g2) (d := s.sg.dirty) (r := .ret) (n := 0) (l := x :: y :: svs) (fun j => (t :: u :: vsR).getD j undef) (fun j z hj => by
            have hlt := lt_of_getElem? hj
            have hlt2 : j < (t :: u :: vsR).length := by omega
            have := hparts j z (t :: u :: vsR)[j] hj (List.getElem?_eq_getElem hlt2)
            simp only [List.getD, List.getElem?_eq_getElem hlt2, Option.getD_some]
            rw [show 0 + 64 * (j + 1) = 64 * (1 + j) by omega]
            exact this)
          have e : ((List.range (x :: y :: svs).length).map fun j => (t :: u :: vsR).getD j undef).toArray = (t :: u :: vsR).toArray := by
            congr 1
            apply List.ext_getElem?
            intro j
            rcases Nat.lt_or_ge j (t :: u :: vsR).length with q | q
            · have q' : j < (x :: y :: svs).length := by omega
              rw [List.getElem?_map, List.getElem?_range q', List.getElem?_eq_getElem q]
              simp only [Option.map_some, List.getD, List.getElem?_eq_getElem q, Option.getD_some]
            · have q' : (x :: y :: svs).length ≤ j := by omega
              rw [List.getElem?_eq_none (by simpa using q'), List.getElem?_eq_none q]
          rw [e] at this
          exact this
    · rw [if_neg hdi] at hq1; exact hq1.elim
  cases ax with
  | normal => exact hpost hq
  | ret => exact hpost hq
  | exit id => exact hq.elim

/-! ## What a function has made and hands out -/
def madePost (ts : List ResultVar) (res : SV) (out : List AR) (s : St) : Prop :=
  ∃ t k l, ts = [.tmp t] ∧ 1000 ≤ k ∧ k ≠ MADE ∧ l.length ≤ 1000 ∧ outOK 0 l s ∧
    ((s.slot t = .c (.mp k) ∧ res = .c (.mp MADE) ∧ ∃ es, lk k s.mp = some es ∧ out = l ++ [.mmap es]) ∨
      (s.slot t = .c (.ptr ⟨.obj k, 0, []⟩) ∧ res = .c (.ptr ⟨.obj MADE, 0, []⟩) ∧ ∃ row, lk k s.ob = some row ∧ row.all C.data = true ∧ out = l ++ [.mbox row]))
theorem lk_append {α : Type} (k : Nat) : ∀ (a b : List (Nat × α)), lk k (a ++ b) = match lk k a with | some x => some x | none => lk k b
  | [], b => rfl
  | (m, x) :: a, b => by
    simp only [List.cons_append, lk]
    split
    · rfl
    · exact lk_append k a b
theorem obsOf_app : ∀ (l m : List AR) (n : Nat), obsOf n (l ++ m) = obsOf n l ++ obsOf (n + l.length) m
  | [], m, n => rfl
  | a :: l, m, n => by
    have := obsOf_app l m (n + 1)
    rw [show n + 1 + l.length = n + (a :: l).length by simp; omega] at this
    cases a <;> simp only [List.cons_append, obsOf, this]
theorem visOf_app : ∀ (l m : List AR) (n : Nat), visOf n (l ++ m) = visOf n l ++ visOf (n + l.length) m
  | [], m, n => rfl
  | a :: l, m, n => by
    have := visOf_app l m (n + 1)
    rw [show n + 1 + l.length = n + (a :: l).length by simp; omega] at this
    cases a <;> simp only [List.cons_append, visOf, this]
theorem mpsOf_app : ∀ (l m : List AR) (n : Nat), mpsOf n (l ++ m) = mpsOf n l ++ mpsOf (n + l.length) m
  | [], m, n => rfl
  | a :: l, m, n => by
    have := mpsOf_app l m (n + 1)
    rw [show n + 1 + l.length = n + (a :: l).length by simp; omega] at this
    cases a <;> simp only [List.cons_append, mpsOf, this]
theorem outOK_keys {s : St} : ∀ {l : List AR} {n : Nat}, outOK n l s → (∀ k row, lk k (obsOf n l) = some row → n ≤ k ∧ k < n + l.length) ∧ (∀ k x, lk k (visOf n l) = some x → n ≤ k ∧ k < n + l.length) ∧ (∀ k es, lk k (mpsOf n l) = some es → n ≤ k ∧ k < n + l.length)
  | [], n, _ => by simp [obsOf, visOf, mpsOf, lk]
  | a :: l, n, h => by
    cases a with
    | mbox row => exact h.elim
    | mmap es => exact h.elim
    | box row =>
      obtain ⟨i1, i2, i3⟩ := outOK_keys (l := l) (n := n + 1) h.2.2
      refine ⟨fun k r hk => ?_, fun k x hk => ?_, fun k x hk => ?_⟩
      · simp only [obsOf, lk] at hk
        split at hk
        · simp; omega
        · have := i1 k r hk; simp; omega
      · have := i2 k x hk; simp; omega
      · have := i3 k x hk; simp; omega
    | virt y =>
      obtain ⟨i1, i2, i3⟩ := outOK_keys (l := l) (n := n + 1) h.2.2
      refine ⟨fun k r hk => ?_, fun k x hk => ?_, fun k x hk => ?_⟩
      · have := i1 k r hk; simp; omega
      · simp only [visOf, lk] at hk
        split at hk
        · simp; omega
        · have := i2 k x hk; simp; omega
      · have := i3 k x hk; simp; omega
    | map es =>
      obtain ⟨i1, i2, i3⟩ := outOK_keys (l := l) (n := n + 1) h.2
      refine ⟨fun k r hk => ?_, fun k x hk => ?_, fun k x hk => ?_⟩
      · have := i1 k r hk; simp; omega
      · have := i2 k x hk; simp; omega
      · simp only [mpsOf, lk] at hk
        split at hk
        · simp; omega
        · have := i3 k x hk; simp; omega
/-- The ghost in which the object `k` bears the made one's key. -/
noncomputable def madeGh (g : Gh) (k : Nat) : Gh :=
  { g with
    bl := fun i => if i = MADE then g.bl k else g.bl i
    ow := fun b => match g.ow b with
      | .box j => if j = k then .box MADE else .box j
      | .own a => if a.root = .obj k then .own { a with root := .obj MADE } else .own a
      | t => t
    hd := fun a => if a.root = .obj MADE then g.hd { a with root := .obj k } else g.hd a }
theorem madeGh_move {w : World} {g : Gh} {k : Nat} (hk : 1000 ≤ k) : Move w g w (madeGh g k) := by
  refine ⟨Nat.le_refl _, rfl, fun b _ h => ⟨by rcases h with h | h <;> simp [madeGh, h], rfl⟩, fun j hj => ?_, fun b j _ hj h => ⟨?_, fun cs _ _ hh => ⟨cs, hh, rfl, fun _ _ => rfl⟩⟩, ⟨rfl, rfl, rfl⟩, fun j c p hj _ => ?_⟩
  · simp only [madeGh]; rw [if_neg (by unfold MADE; omega)]
  · simp only [madeGh, h]; rw [if_neg (by omega)]
  · simp only [madeGh]
    rw [if_neg]
    intro e
    have e : j = MADE := by cases e; rfl
    unfold MADE at e
    omega
theorem made_step {E : Env} {s : St} {tmps : Array Value} {w : World} {g : Gh} (hc : Core E s.sg tmps w g) {l : List AR} (hl : outOK 0 l s) (hn : l.length ≤ 1000) {k : Nat} (hk : 1000 ≤ k) {m : AR}
    (ho : ∀ row, m = .mbox row → ObjRep w (madeGh g k) (entrySt [] (l ++ [m])).sg MADE (.box row.length) ∧ row.all C.data = true) (hm : ∀ es, m = .mmap es → MapRep w (madeGh g k) MADE es) (hv : ∀ x, m ≠ .virt x) (hb : ∀ r, m ≠ .box r) (hmm : ∀ r, m ≠ .map r) :
    Core E (entrySt [] (l ++ [m])).sg #[] w (madeGh g k) := by
  have hc0 := Core.out hc hl
  obtain ⟨k1, k2, k3⟩ := outOK_keys hl
  have hvis : (entrySt [] (l ++ [m])).vi = (entrySt [] l).vi := by
    show visOf 0 (l ++ [m]) = visOf 0 l
    rw [visOf_app]
    cases m with
    | virt x => exact absurd rfl (hv x)
    | _ => simp [visOf]
  have hob : ∀ j, j ≠ MADE → lk j (entrySt [] (l ++ [m])).ob = lk j (entrySt [] l).ob := by
    intro j hj
    show lk j (obsOf 0 (l ++ [m])) = lk j (obsOf 0 l)
    rw [obsOf_app, lk_append]
    cases h : lk j (obsOf 0 l) with
    | some x => rfl
    | none =>
      cases m with
      | box r => exact absurd rfl (hb r)
      | mbox r => simp [obsOf, lk, hj]
      | _ => simp [obsOf, lk]
  have hmp : ∀ j, j ≠ MADE → lk j (entrySt [] (l ++ [m])).mp = lk j (entrySt [] l).mp := by
    intro j hj
    show lk j (mpsOf 0 (l ++ [m])) = lk j (mpsOf 0 l)
    rw [mpsOf_app, lk_append]
    cases h : lk j (mpsOf 0 l) with
    | some x => rfl
    | none =>
      cases m with
      | map r => exact absurd rfl (hmm r)
      | mmap r => simp [mpsOf, lk, hj]
      | _ => simp [mpsOf, lk]
  have hno : lk MADE (obsOf 0 l) = none ∧ lk MADE (visOf 0 l) = none ∧ lk MADE (mpsOf 0 l) = none := by
    refine ⟨?_, ?_, ?_⟩
    · cases h : lk MADE (obsOf 0 l) with
      | none => rfl
      | some x => have := k1 _ _ h; unfold MADE at this; omega
    · cases h : lk MADE (visOf 0 l) with
      | none => rfl
      | some x => have := k2 _ _ h; unfold MADE at this; omega
    · cases h : lk MADE (mpsOf 0 l) with
      | none => rfl
      | some x => have := k3 _ _ h; unfold MADE at this; omega
  have hkind : ∀ j, j ≠ MADE → (entrySt [] (l ++ [m])).sg.kind j = (entrySt [] l).sg.kind j := by
    intro j hj
    show (entrySt [] (l ++ [m])).kind j = (entrySt [] l).kind j
    simp only [St.kind, hob j hj, hvis]
  have hcell : ∀ j c, j ≠ MADE → (entrySt [] (l ++ [m])).sg.cell j c = (entrySt [] l).sg.cell j c := by
    intro j c hj
    show (entrySt [] (l ++ [m])).cell j c = (entrySt [] l).cell j c
    simp only [St.cell, hob j hj, hvis]
  have hlt : ∀ j kd, (entrySt [] l).sg.kind j = some kd → j < 1000 := by
    intro j kd h
    have h : (entrySt [] l).kind j = some kd := h
    simp only [St.kind, entrySt] at h
    cases h1 : lk j (obsOf 0 l) with
    | some r => have := k1 _ _ h1; omega
    | none =>
      rw [h1] at h
      cases h2 : lk j (visOf 0 l) with
      | some r => have := k2 _ _ h2; omega
      | none => rw [h2] at h; cases h
  have bx : ∀ b j, j < 1000 → g.ow b = .box j → (madeGh g k).ow b = .box j := fun b j hj h => by simp only [madeGh, h]; rw [if_neg (by omega)]
  have still : ∀ r c, (∀ j, r = .obj j → j < 1000) → Still w w g (madeGh g k) r c := by
    intro r c hr
    refine ⟨fun b p _ h => ⟨?_, rfl⟩, fun p => ?_⟩
    · simp only [madeGh, h]
      rw [if_neg]
      intro e
      have := hr _ e
      omega
    · simp only [madeGh]
      rw [if_neg]
      intro e
      have := hr _ e
      unfold MADE at this
      omega
  have hexl : ∀ r, (entrySt [] l).sg.ex r → ∀ j, r = .obj j → j < 100000 ∨ j < 1000 := by
    rintro r h j rfl
    rcases h with h | h | h
    · exact .inl h
    · cases h' : (entrySt [] l).sg.kind j with
      | none => exact absurd h' h
      | some kd => exact .inr (hlt j kd h')
    · have h : lk j (mpsOf 0 l) ≠ none := h
      cases h' : lk j (mpsOf 0 l) with
      | none => exact absurd h' h
      | some kd => have := k3 _ _ h'; exact .inr (by omega)
  refine ⟨fun n => .c (.t (.fro .top)), fun n => rfl, fun n r hr => by simp [SV.roots, C.roots, St.sg, St.slot, entrySt, numbered, lk] at hr, fun j c r hr => ?_, fun j kd h => ?_, fun j es h => ?_, fun b hb => ?_, hc0.size⟩
  · by_cases hj : j = MADE
    · subst hj
      have hr : r ∈ ((entrySt [] (l ++ [m])).cell MADE c).roots := hr
      have e1 : lk MADE (entrySt [] (l ++ [m])).ob = (match m with | .mbox row => some row | _ => none) := by
        show lk MADE (obsOf 0 (l ++ [m])) = _
        rw [obsOf_app, lk_append, hno.1]
        cases m with
        | box r => exact absurd rfl (hb r)
        | mbox r => simp [obsOf, lk]
        | _ => simp [obsOf, lk]
      have e2 : lk MADE (entrySt [] (l ++ [m])).vi = none := by rw [hvis]; exact hno.2.1
      simp only [St.cell, e1, e2] at hr
      cases m with
      | mbox row =>
        simp only at hr
        have hd := (ho row rfl).2
        simp only [List.all_eq_true] at hd
        rcases Nat.lt_or_ge c row.length with q | q
        · rw [List.getD, List.getElem?_eq_getElem q] at hr
          have := hd row[c] (List.getElem_mem q)
          simp only [Option.getD_some] at hr
          generalize row[c] = y at hr this
          cases y with
          | t y => simp [C.roots] at hr
          | _ => cases this
        · rw [List.getD, List.getElem?_eq_none q] at hr
          simp [C.roots] at hr
      | _ => simp [C.roots] at hr
    · rw [hcell j c hj] at hr
      have h1 := hc0.liveC j c r hr
      have : ∀ r, (entrySt [] l).sg.ex r → (entrySt [] (l ++ [m])).sg.ex r := by
        intro r h
        cases r with
        | obj i =>
          rcases hexl _ h i rfl with q | q
          · exact .inl q
          · exact .inl (by omega)
        | _ => exact h
      exact this r h1
  · by_cases hj : j = MADE
    · subst hj
      have h : (entrySt [] (l ++ [m])).kind MADE = some kd := h
      have e1 : lk MADE (entrySt [] (l ++ [m])).ob = (match m with | .mbox row => some row | _ => none) := by
        show lk MADE (obsOf 0 (l ++ [m])) = _
        rw [obsOf_app, lk_append, hno.1]
        cases m with
        | box r => exact absurd rfl (hb r)
        | mbox r => simp [obsOf, lk]
        | _ => simp [obsOf, lk]
      have e2 : lk MADE (entrySt [] (l ++ [m])).vi = none := by rw [hvis]; exact hno.2.1
      simp only [St.kind, e1, e2] at h
      cases m with
      | mbox row =>
        simp only [Option.some.injEq] at h
        subst h
        exact (ho row rfl).1
      | _ => cases h
    · rw [hkind j hj] at h
      have hjl := hlt j kd h
      have base := hc0.objs j kd h
      have hjr : ∀ i, (Root.obj j) = .obj i → i < 1000 := fun i e => by cases e; exact hjl
      have keeps : Keeps w w g (madeGh g k) (entrySt [] l).sg.dirty (entrySt [] (l ++ [m])).sg.dirty (fun r => ∀ i, r = .obj i → i < 1000) :=
        ⟨Nat.le_refl _, fun b _ h => ⟨by simp [madeGh, h], rfl⟩, fun r c hr hd => ⟨rfl, (still r c hr).hd⟩, fun i hi => by simp only [madeGh]; rw [if_neg]; have := hi i rfl; unfold MADE; omega⟩
      have hlat : ∀ c, ((entrySt [] l).sg.cell j c).lat = true := by
        intro c
        show ((entrySt [] l).cell j c).lat = true
        have hs : ∀ (l : List AR) (n : Nat), outOK n l s → (∀ k row, lk k (obsOf n l) = some row → row.all C.lat = true) ∧ ∀ k x, lk k (visOf n l) = some x → x.lat = true := by
          intro l
          induction l with
          | nil => intro n _; simp [obsOf, visOf, lk]
          | cons a l ih =>
            intro n h
            cases a with
            | mbox r => exact h.elim
            | mmap r => exact h.elim
            | box r =>
              obtain ⟨i1, i2⟩ := ih (n + 1) h.2.2
              refine ⟨fun k row hk => ?_, i2⟩
              simp only [obsOf, lk] at hk
              split at hk
              · cases hk; exact h.2.1
              · exact i1 k row hk
            | virt x =>
              obtain ⟨i1, i2⟩ := ih (n + 1) h.2.2
              refine ⟨i1, fun k y hk => ?_⟩
              simp only [visOf, lk] at hk
              split at hk
              · cases hk; rfl
              · exact i2 k y hk
            | map es => exact ih (n + 1) h.2
        obtain ⟨q1, q2⟩ := hs l 0 hl
        simp only [St.cell, entrySt]
        cases h1 : lk j (obsOf 0 l) with
        | some row =>
          have := q1 j row h1
          simp only [List.all_eq_true] at this
          rcases Nat.lt_or_ge c row.length with q | q
          · simp only [List.getD, List.getElem?_eq_getElem q, Option.getD_some]; exact this _ (List.getElem_mem q)
          · simp only [List.getD, List.getElem?_eq_none q]; rfl
        | none =>
          cases h2 : lk j (visOf 0 l) with
          | some x =>
            simp only
            split
            · exact q2 j x h2
            · rfl
          | none => rfl
      have cellStill : ∀ c u, CRep w g (entrySt [] l).sg.dirty ⟨.obj j, c, []⟩ ((entrySt [] l).sg.cell j c) u → CRep w (madeGh g k) (entrySt [] (l ++ [m])).sg.dirty ⟨.obj j, c, []⟩ ((entrySt [] (l ++ [m])).sg.cell j c) u := by
        intro c u hu
        rw [hcell j c hj]
        refine hu.still keeps (fun r hr i e => ?_) (still _ _ hjr)
        have := hlat c
        generalize (entrySt [] l).sg.cell j c = y at hr this
        cases y with
        | t y => simp [C.roots] at hr
        | mp i' =>
          simp only [C.roots, List.mem_singleton] at hr
          simp only [C.lat, decide_eq_true_eq] at this
          rw [e] at hr
          cases hr
          exact this
        | _ => cases this
      cases kd with
      | box n =>
        obtain ⟨cs, el, b1, b2, b3, b4, b5⟩ := base
        have e : (madeGh g k).bl j = g.bl j := by simp only [madeGh]; rw [if_neg hj]
        refine ⟨cs, el, by rw [e]; exact b1, by rw [e]; exact bx _ _ hjl b2, by rw [e]; exact b3, by rw [e]; exact b4, fun c hcl => ?_⟩
        obtain ⟨u, f1, f2⟩ := b5 c hcl
        exact ⟨u, by rw [e]; exact f1, cellStill c u f2⟩
      | virt =>
        obtain ⟨u, f2⟩ := base
        exact ⟨u, cellStill 0 u f2⟩
  · by_cases hj : j = MADE
    · subst hj
      have h : lk MADE (mpsOf 0 (l ++ [m])) = some es := h
      rw [mpsOf_app, lk_append, hno.2.2] at h
      cases m with
      | map r => exact absurd rfl (hmm r)
      | mmap r =>
        simp only [mpsOf, lk, if_true, Option.some.injEq] at h
        subst h
        exact hm r rfl
      | _ => simp [mpsOf, lk] at h
    · have h : lk j (entrySt [] (l ++ [m])).mp = some es := h
      rw [hmp j hj] at h
      have h' : lk j (mpsOf 0 l) = some es := h
      have hjl := k3 _ _ h'
      obtain ⟨el, ck, e1, e2, e3, e4⟩ := hc0.maps j es h
      have e : (madeGh g k).bl j = g.bl j := by simp only [madeGh]; rw [if_neg hj]
      refine ⟨el, ck, by rw [e]; exact e1, by rw [e]; exact bx _ _ (by omega) e2, e3, fun i p x a1 a2 => ?_⟩
      obtain ⟨b1, b2⟩ := e4 i p x a1 a2
      exact ⟨b1.frame (Nat.le_refl _) fun b _ h => ⟨by simp [madeGh, h], rfl⟩, b2.frame (Nat.le_refl _) fun b _ h => ⟨by simp [madeGh, h], rfl⟩⟩
  · obtain ⟨h1, h2⟩ := hc0.glob b hb
    exact ⟨by simp [madeGh, h1], h2⟩
theorem fn_made {E : Env} {f : Nat} {fn : Func} {c : Code} {keep : Kp} {fa : List SV} {rs : List AR} {res : SV} {out : List AR} (hmix : E.P.follows .mixedOrders = true) (hstep : Step1OK E fn.ntmps (Returns E))
    (hf : E.P.funcs[f]? = some fn) (hb : fn.body = some c) (hname : (fn.name == "runtime.NumGoroutine") = false) (hok : okCode fn.ntmps c = true) (hfa : fa.length ≤ fn.ntmps)
    (h : awp E.P (Returns E) keep c (fun ax s => match ax with | .exit _ => False | _ => madePost fn.results.toList res out s) (entrySt fa rs)) : Returns E f fa rs res out := by
  have hname' : ¬ fn.name = "runtime.NumGoroutine" := by simpa using hname
  refine ⟨fun vals w => by simp [callFunc, hf, hb, hname'], fun w g vals hl hsz hc => ?_⟩
  have hc0 := Core.enter hc fn.ntmps
  refine calls_of_wp hf hb (wp_mono (awp_ok hmix hstep c _ (entrySt fa rs) { tmps := vals ++ Array.replicate (fn.ntmps - vals.size) undef, defers := [] } w g hok h hc0 (by simp; omega) hl _ w g (Move.refl _ _) rfl) fun e a' w' hq => ?_)
  obtain ⟨ax, s, g', rfl, hq, hc1, hm, hs1, hd1⟩ := hq
  have hpost : ∀ (hq : madePost fn.results.toList res out s), a'.defers = [] ∧ ∃ v, (results fn a'.tmps).run E.P w' = .ok v w' ∧ ∃ g', SVRep w' g' noDirt .ret 0 res v ∧ Core E (entrySt [] out).sg #[] w' g' ∧ Move w g w' g' := by
    rintro ⟨t, k, l, ht, hk, hkm, hl1, ho, hcase⟩
    have hres : (results fn a'.tmps).run E.P w' = .ok (a'.tmps.getD t undef) w' := by
      have := run_results (P := E.P) (fn := fn) (tmps := a'.tmps) (w := w') (vs := [a'.tmps.getD t undef]) (by rw [ht]; exact .cons (by unfold rvRuns; rfl) .nil)
      exact this
    have hslot := hc1.slots t
    rcases hcase with ⟨h1, rfl, es, h2, rfl⟩ | ⟨h1, rfl, row, h2, h3, rfl⟩
    · have h1 : s.sg.slot t = .c (.mp k) := h1
      rw [h1] at hslot
      refine ⟨hd1, _, hres, madeGh g' k, ?_, made_step hc1 ho hl1 hk (fun row e => by cases e) (fun es' e => ?_) (fun x e => by cases e) (fun x e => by cases e) (fun x e => by cases e), hm.trans (madeGh_move hk)⟩
      · generalize a'.tmps.getD t undef = v at hslot
        cases hslot with | c hslot => cases hslot with | mp hv => exact .c (.mp (by rw [hv]; simp [madeGh]))
      · cases e
        obtain ⟨el, ck, e1, e2, e3, e4⟩ := hc1.maps k es h2
        refine ⟨el, ck, by simpa [madeGh] using e1, ?_, e3, fun i p x a1 a2 => ?_⟩
        · simp [madeGh, e2]
        · obtain ⟨b1, b2⟩ := e4 i p x a1 a2
          exact ⟨b1.frame (Nat.le_refl _) fun b _ h => ⟨by simp [madeGh, h], rfl⟩, b2.frame (Nat.le_refl _) fun b _ h => ⟨by simp [madeGh, h], rfl⟩⟩
    · have h1 : s.sg.slot t = .c (.ptr ⟨.obj k, 0, []⟩) := h1
      rw [h1] at hslot
      refine ⟨hd1, _, hres, madeGh g' k, ?_, made_step hc1 ho hl1 hk (fun row' e => ?_) (fun es' e => by cases e) (fun x e => by cases e) (fun x e => by cases e) (fun x e => by cases e), hm.trans (madeGh_move hk)⟩
      · generalize a'.tmps.getD t undef = v at hslot
        cases hslot with
        | c hslot => cases hslot with
          | ptr _ hv _ =>
            obtain ⟨k', e1, e2⟩ := PRep.path_nil.1 (hv rfl)
            cases e1
            refine .c (.ptr (fun h => absurd rfl h) (fun _ => PRep.path_nil.2 ⟨MADE, rfl, ?_⟩) (by rw [e2]; rfl))
            rw [e2]
            simp [madeGh]
      · cases e
        refine ⟨?_, h3⟩
        obtain ⟨cs, el, b1, b2, b3, b4, b5⟩ := hc1.objs k (.box row.length) (by simp [St.sg, St.kind, h2])
        obtain ⟨k1, _, _⟩ := outOK_keys ho
        have e1 : lk MADE (entrySt [] (l ++ [AR.mbox row])).ob = some row := by
          show lk MADE (obsOf 0 (l ++ [AR.mbox row])) = _
          rw [obsOf_app, lk_append]
          cases h : lk MADE (obsOf 0 l) with
          | none => simp [obsOf, lk]
          | some x => have := k1 _ _ h; unfold MADE at this; omega
        refine ⟨cs, el, by simpa [madeGh] using b1, by simp [madeGh, b2], by simpa [madeGh] using b3, by simpa [madeGh] using b4, fun c hcl => ?_⟩
        obtain ⟨u, f1, f2⟩ := b5 c hcl
        refine ⟨u, by simpa [madeGh] using f1, ?_⟩
        have e2 : (entrySt [] (l ++ [AR.mbox row])).sg.cell MADE c = s.sg.cell k c := by simp [St.sg, St.cell, e1, h2]
        rw [e2]
        have hdat : (s.sg.cell k c).data = true := by
          simp only [List.all_eq_true] at h3
          simp only [St.sg, St.cell, h2]
          rw [List.getD, List.getElem?_eq_getElem hcl]
          exact h3 _ (List.getElem_mem hcl)
        generalize s.sg.cell k c = y at f2 hdat
        cases y with
        | t y =>
          cases f2 with
          | t f2 =>
            refine .t (Rep.map (w' := w') (g' := madeGh g' k) (fun a => { a with root := .obj MADE }) f2 (Nat.le_refl _) (fun _ _ _ => rfl) (fun b _ h => ⟨by simp [madeGh, h], rfl⟩) (fun b a _ ha h => ⟨?_, rfl⟩) (fun a ha => ?_))
            · simp only [madeGh, h]
              rw [if_pos ha.1]
            · simp only [madeGh, if_true]
              congr 1
              cases a
              have := ha.1
              simp only at this
              simp [this]
        | _ => cases hdat
  cases ax with
  | normal => exact hpost hq
  | ret => exact hpost hq
  | exit id => exact hq.elim
end Vx

namespace Vx
open Go Classical
set_option linter.unusedSimpArgs false
set_option linter.unusedVariables false

/-! ## Calls -/
structure Bridge (g gh : Gh) (cl : Bool) : Prop where
  lim : gh.lim = g.lim
  fz : ∀ b, g.ow b = .frozen → gh.ow b = .frozen
  own : cl = false → ∀ b a, g.ow b = .own a → gh.ow b = .frozen
theorem Bridge.left {g gh : Gh} {c1 c2 : Bool} (h : Bridge g gh (c1 && c2)) : Bridge g gh c1 := ⟨h.lim, h.fz, fun e => h.own (by simp [e])⟩
theorem Bridge.right {g gh : Gh} {c1 c2 : Bool} (h : Bridge g gh (c1 && c2)) : Bridge g gh c2 := ⟨h.lim, h.fz, fun e => h.own (by simp [e])⟩

/-- The callee sees `z` where the caller has `x`. -/
structure Pass (E : Env) (σ : Sg) (x z : C) (p : Prop) (cl : Bool) : Prop where
  own : p → x.isOwn = false → z.isOwn = false
  roots : z.roots = []
  rep : p → x.isOwn = false → ∀ (tmps : Array Value) (w : World) (g gh : Gh) (v : Value) (a : CA), Core E σ tmps w g → Bridge g gh cl → CRep w g σ.dirty a x v → CRep w gh noDirt a z v
inductive PassL (E : Env) (σ : Sg) : List C → List C → Prop → Bool → Prop where
  | nil : PassL E σ [] [] True true
  | cons {x z l m p q c1 c2} (h : Pass E σ x z p c1) (t : PassL E σ l m q c2) : PassL E σ (x :: l) (z :: m) (p ∧ q) (c1 && c2)
theorem PassL.spec {E : Env} {σ : Sg} {l m : List C} {p : Prop} {cl : Bool} (h : PassL E σ l m p cl) : m.length = l.length ∧ (∀ z ∈ m, (p → (∀ x ∈ l, x.isOwn = false) → z.isOwn = false) ∧ z.roots = []) ∧
    (p → ∀ (tmps : Array Value) (w : World) (g gh : Gh), Core E σ tmps w g → Bridge g gh cl → ∀ (j : Nat) (x z : C) (v : Value) (a : CA), l[j]? = some x → m[j]? = some z → x.isOwn = false → CRep w g σ.dirty a x v → CRep w gh noDirt a z v) := by
  induction h with
  | nil => exact ⟨rfl, by simp, fun _ tmps w g gh _ _ j x z v a h => by simp at h⟩
  | cons h t ih =>
    obtain ⟨i1, i2, i3⟩ := ih
    refine ⟨by simp [i1], fun y hy => ?_, fun hp tmps w g gh hc hb j x z v a hj hz hx hr => ?_⟩
    · rcases List.mem_cons.1 hy with e | e
      · subst e; exact ⟨fun hp hx => h.own hp.1 (hx _ (by simp)), h.roots⟩
      · exact ⟨fun hp hx => (i2 y e).1 hp.2 fun x h => hx x (by simp [h]), (i2 y e).2⟩
    · cases j with
      | zero =>
        simp only [List.getElem?_cons_zero, Option.some.injEq] at hj hz
        subst hj hz
        exact h.rep hp.1 hx tmps w g gh v a hc hb.left hr
      | succ j => exact i3 hp.2 tmps w g gh hc hb.right j x z v a (by simpa using hj) (by simpa using hz) hx hr
mutual
theorem passC_ok {E : Env} {σ : Sg} : ∀ (x : C) {f : C → Prop → Bool → Rd Eff}, ((passC [] x f).run σ).ok → ∃ z p cl, Pass E σ x z p cl ∧ (passC [] x f).run σ = (f z p cl).run σ
  | .t y, f, h => by
    simp only [passC] at h ⊢
    exact ⟨.t y, True, true, ⟨fun _ h => h, rfl, fun _ hx tmps w g gh v a hc hb hr => by
        cases hr with
        | t hr => exact .t (.fro ((hr.isFro fun sz xs e => by subst e; simp [C.isOwn] at hx).frame (by rw [hb.lim]; exact Nat.le_refl _) fun b _ h => ⟨hb.fz b h, rfl⟩))⟩, rfl⟩
  | .ref a, f, h => by
    simp only [passC, List.findIdx?_nil, List.any_nil, Bool.false_eq_true, if_false] at h ⊢
    obtain ⟨t, y, e, hat, hp⟩ := deref_is h
    rw [e] at h ⊢
    by_cases ho : y.isOwn = true
    · rw [if_pos ho] at h ⊢
      refine ⟨.t y.view, True, false, ⟨fun _ _ => ?_, rfl, fun _ _ tmps w g gh v a' hc hb hr => ?_⟩, rfl⟩
      · cases y with
        | sl o sz xs => rw [T.view_sl]; rfl
        | _ => cases ho
      · obtain ⟨u, hu⟩ := hc.deref hat hp.slot hp.obj hp.nret
        have hv : v = u := by
          cases hr with
          | ref hr _ =>
            rw [hr hp.dirty]
            cases y with
            | sl o sz xs =>
              cases o with
              | true => exact hu.own_hd.symm
              | false => cases ho
            | _ => cases ho
        rw [hv]
        exact .t (.fro (hu.freeze (by rw [hb.lim]; exact Nat.le_refl _) (fun b _ h => hb.fz b h) (fun b a' _ _ h => hb.own rfl b a' h)))
    · rw [if_neg ho] at h; exact h.elim
  | .ptr ⟨r, c, q⟩, f, h => by
    cases r with
    | obj k =>
      cases q with
      | nil => simp only [passC, List.findIdx?_nil] at h; exact h.elim
      | cons _ _ => exact h.elim
    | _ => exact h.elim
  | .fp row c, f, h => by
    simp only [passC] at h ⊢
    refine ⟨_, _, _, ⟨fun _ _ => rfl, rfl, fun _ _ tmps w g gh v a hc hb hr => ?_⟩, rfl⟩
    cases hr with
    | fp vs hh ho hcell hrec => exact .fp vs hh (hb.fz _ ho) hcell fun j x hj => (hrec j x hj).frame (by rw [hb.lim]; exact Nat.le_refl _) fun b _ h => ⟨hb.fz b h, rfl⟩
  | .clo g caps, f, h => by
    simp only [passC] at h ⊢
    obtain ⟨m, p, cl, hP, e⟩ := passL_ok (E := E) caps h
    obtain ⟨p1, p2, p3⟩ := hP.spec
    refine ⟨.clo g m, p, cl, ⟨fun _ _ => rfl, ?_, fun hp _ tmps w g0 gh v a hc hb hr => ?_⟩, e⟩
    · simp only [C.roots]
      rw [List.eq_nil_iff_forall_not_mem]
      intro r hr
      obtain ⟨z, hz, hr⟩ := C.mem_rootsL.1 hr
      rw [(p2 z hz).2] at hr
      cases hr
    · cases hr with
      | clo vs hn hcap =>
        rw [← p1]
        refine .clo vs (fun z hz => (p2 z hz).1 hp hn) fun j z hj => ?_
        have hlt := lt_of_getElem? hj
        have hlt' : j < caps.length := by omega
        exact p3 hp tmps w g0 gh hc hb j caps[j] z (vs j) a (List.getElem?_eq_getElem hlt') hj (hn _ (List.getElem_mem hlt')) (hcap j _ (List.getElem?_eq_getElem hlt'))
  | .mp k, f, h => by simp only [passC, List.findIdx?_nil] at h; exact h.elim
theorem passL_ok {E : Env} {σ : Sg} : ∀ (l : List C) {f : List C → Prop → Bool → Rd Eff}, ((passL [] l f).run σ).ok → ∃ m p cl, PassL E σ l m p cl ∧ (passL [] l f).run σ = (f m p cl).run σ
  | [], f, h => ⟨[], True, true, .nil, by simp only [passL]⟩
  | x :: l, f, h => by
    simp only [passL] at h ⊢
    obtain ⟨z, p, c1, h1, e1⟩ := passC_ok (E := E) x h
    rw [e1] at h ⊢
    obtain ⟨m, q, c2, h2, e2⟩ := passL_ok (E := E) l h
    exact ⟨_, _, _, .cons h1 h2, e2⟩
end

inductive PassA (E : Env) (σ : Sg) : List Operand → List SV → Prop → Bool → Prop where
  | nil : PassA E σ [] [] True true
  | c {x y z l m p q c1 c2} (hx : ∃ sv, sv = SV.c y ∧ (∀ a tmps w g, Core E σ (Act.tmps a) w g → tmps = a.tmps → LIM ≤ g.lim → okOpd x = true → SVRep w g σ.dirty .ret 0 sv (a.eval x))) (hy : y.isOwn = false) (h : Pass E σ y z p c1) (t : PassA E σ l m q c2) : PassA E σ (x :: l) (.c z :: m) (p ∧ q) (c1 && c2)
  | agg {x row zs l m p q c1 c2} (hx : ∃ sv, sv = SV.agg row ∧ (∀ a tmps w g, Core E σ (Act.tmps a) w g → tmps = a.tmps → LIM ≤ g.lim → okOpd x = true → SVRep w g σ.dirty .ret 0 sv (a.eval x))) (hy : ∀ y ∈ row, y.isOwn = false) (h : PassL E σ row zs p c1) (t : PassA E σ l m q c2) : PassA E σ (x :: l) (.agg zs :: m) (p ∧ q) (c1 && c2)
theorem passArgs_ok {E : Env} {σ : Sg} : ∀ (l : List Operand) {f : List SV → Prop → Bool → Rd Eff}, ((passArgs [] l f).run σ).ok → ∃ m p cl, PassA E σ l m p cl ∧ (passArgs [] l f).run σ = (f m p cl).run σ
  | [], f, h => ⟨[], True, true, .nil, by simp only [passArgs]⟩
  | x :: l, f, h => by
    simp only [passArgs] at h ⊢
    obtain ⟨sv, e, hr, e2, e3, _⟩ := rdS_ok2 h
    rw [e] at h ⊢
    cases sv with
    | c y =>
      simp only at h ⊢
      obtain ⟨z, p, c1, h1, e1⟩ := passC_ok (E := E) y h
      rw [e1] at h ⊢
      obtain ⟨m, q, c2, h2, e4⟩ := passArgs_ok (E := E) l h
      exact ⟨_, _, _, .c ⟨_, rfl, fun a tmps w g hc _ hl ho => e2 E a w g hc hl ho .ret⟩ (e3 _ rfl y (by simp)) h1 h2, e4⟩
    | agg row =>
      simp only at h ⊢
      obtain ⟨zs, p, c1, h1, e1⟩ := passL_ok (E := E) row h
      rw [e1] at h ⊢
      obtain ⟨m, q, c2, h2, e4⟩ := passArgs_ok (E := E) l h
      exact ⟨_, _, _, .agg ⟨_, rfl, fun a tmps w g hc _ hl ho => e2 E a w g hc hl ho .ret⟩ (e3 _ rfl) h1 h2, e4⟩
    | tup l => exact h.elim
theorem PassA.spec {E : Env} {σ : Sg} {l : List Operand} {m : List SV} {p : Prop} {cl : Bool} (h : PassA E σ l m p cl) : m.length = l.length ∧ (∀ z ∈ m, z.roots = [] ∧ z.flat = true) ∧
    (p → ∀ (a : Act) (w : World) (g gh : Gh), Core E σ a.tmps w g → LIM ≤ g.lim → (∀ x ∈ l, okOpd x = true) → Bridge g gh cl → ∀ (j : Nat) (x : Operand) (z : SV) (r : Root), l[j]? = some x → m[j]? = some z → SVRep w gh noDirt r 0 z (a.eval x)) := by
  induction h with
  | nil => exact ⟨rfl, by simp, fun _ a w g gh _ _ _ _ j x z r h => by simp at h⟩
  | @c x y z l m p q c1 c2 hx hy h t ih =>
    obtain ⟨i1, i2, i3⟩ := ih
    refine ⟨by simp [i1], fun y' hy' => ?_, fun hp a w g gh hc hl ho hb j x' z' r hj hz => ?_⟩
    · rcases List.mem_cons.1 hy' with e | e
      · subst e; exact ⟨h.roots, rfl⟩
      · exact i2 y' e
    · cases j with
      | zero =>
        simp only [List.getElem?_cons_zero, Option.some.injEq] at hj hz
        subst hj hz
        obtain ⟨sv, rfl, hx⟩ := hx
        have := hx a _ w g hc rfl hl (ho _ (by simp))
        cases this with | c this => exact .c ((h.rep hp.1 hy a.tmps w g gh _ _ hc hb.left this).repos (h.own hp.1 hy))
      | succ j => exact i3 hp.2 a w g gh hc hl (fun x hx => ho x (by simp [hx])) hb.right j x' z' r (by simpa using hj) (by simpa using hz)
  | @agg x row zs l m p q c1 c2 hx hy h t ih =>
    obtain ⟨i1, i2, i3⟩ := ih
    obtain ⟨s1, s2, s3⟩ := h.spec
    refine ⟨by simp [i1], fun y' hy' => ?_, fun hp a w g gh hc hl ho hb j x' z' r hj hz => ?_⟩
    · rcases List.mem_cons.1 hy' with e | e
      · subst e
        refine ⟨?_, rfl⟩
        simp only [SV.roots]
        rw [List.eq_nil_iff_forall_not_mem]
        intro r hr
        obtain ⟨z, hz, hr⟩ := C.mem_rootsL.1 hr
        rw [(s2 z hz).2] at hr
        cases hr
      · exact i2 y' e
    · cases j with
      | zero =>
        simp only [List.getElem?_cons_zero, Option.some.injEq] at hj hz
        subst hj hz
        obtain ⟨sv, rfl, hx⟩ := hx
        have := hx a _ w g hc rfl hl (ho _ (by simp))
        revert this
        generalize a.eval x = v
        intro this
        cases this with
        | agg vs this =>
          rw [← s1]
          refine .agg vs fun k z hk => ?_
          have hlt := lt_of_getElem? hk
          have hlt' : k < row.length := by omega
          exact (s3 hp.1 a.tmps w g gh hc hb.left k row[k] z (vs k) _ (List.getElem?_eq_getElem hlt') hk (hy _ (List.getElem_mem hlt')) (this k _ (List.getElem?_eq_getElem hlt'))).repos ((s2 z (List.mem_of_getElem? hk)).1 hp.1 hy)
      | succ j => exact i3 hp.2 a w g gh hc hl (fun x hx => ho x (by simp [hx])) hb.right j x' z' r (by simpa using hj) (by simpa using hz)
end Vx

namespace Vx
open Go Classical
set_option linter.unusedSimpArgs false
set_option linter.unusedVariables false

theorem Rep.mapN {w w' : World} {g g' : Gh} (f : CA → CA) {a : CA} {t : T} {v : Value} (h : Rep w g a t v) (hn : t.noFz = true) (hl : g.lim ≤ g'.lim) (hf : ∀ a', a'.under a → ∀ s, f (a'.hop s) = (f a').hop s)
    (how : ∀ b a', b < w.heap.size → a'.under a → g.ow b = .own a' → g'.ow b = .own (f a') ∧ w'.heap[b]? = w.heap[b]?) (hhd : ∀ a', a'.under a → g'.hd (f a') = g.hd a') : Rep w' g' (f a) t v := by
  induction h with
  | @fro a t v h =>
    cases h with
    | int => exact .fro .int
    | bool => exact .fro .bool
    | str h => exact .fro (.str (Nat.le_trans h hl))
    | val => exact .fro .val
    | top => exact .fro .top
    | nil => exact .fro .nil
    | may h1 h2 => exact .fro (.may h1 h2)
    | fnil => exact .fro .fnil
    | @fz b off cap sz xs cs el fr vs hh ho hcap hlim hrow hcell hrec =>
      rw [T.noFz_sl] at hn
      simp only [Bool.false_or, Bool.and_eq_true, List.isEmpty_iff] at hn
      have : xs = [] := hn.1
      subst this
      exact .fro .fnil
  | onil hd => exact .onil ((hhd _ (CA.under_refl _)).trans hd)
  | @own a b off cap sz xs cs el vs hd hh ho hsize hcap hlim hrow hcell hrec ih =>
    obtain ⟨ho', hw'⟩ := how _ a (lt_of_heap hh) (CA.under_refl _) ho
    rw [T.noFz_sl] at hn
    simp only [Bool.true_or, Bool.true_and, List.all_eq_true] at hn
    refine .own vs ((hhd _ (CA.under_refl _)).trans hd) (hw'.trans hh) ho' hsize hcap (Nat.le_trans hlim hl) hrow hcell fun i row c t h1 h2 => ?_
    have := ih i row c t h1 h2 (hn row (List.mem_of_getElem? h1) t (List.mem_of_getElem? h2)) (fun a' h => hf a' (CA.under_of_hop h)) (fun b a' hl h => how b a' hl (CA.under_of_hop h)) (fun a' h => hhd a' (CA.under_of_hop h))
    rw [hf a (CA.under_refl _)] at this
    exact this

/-- Data moves from one root to another. -/
theorem SVRep.mapData {w w' : World} {g g' : Gh} {d d' : Dirt} {r r' : Root} {sv : SV} {v : Value} (h : SVRep w g d r 0 sv v) (hd : sv.data = true)
    (hrep : ∀ (c : Nat) (t : T) (u : Value), (sv.noFz = true → t.noFz = true) → Rep w g ⟨r, c, []⟩ t u → Rep w' g' ⟨r', c, []⟩ t u) : SVRep w' g' d' r' 0 sv v := by
  have cell : ∀ {c : Nat} {x : C} {u : Value}, x.data = true → (sv.noFz = true → x.noFz = true) → CRep w g d ⟨r, c, []⟩ x u → CRep w' g' d' ⟨r', c, []⟩ x u := by
    intro c x u hx hn hr
    cases hr with
    | t hr => exact .t (hrep c _ u hn hr)
    | _ => cases hx
  cases h with
  | c h => exact .c (cell hd (fun e => e) h)
  | agg vs h =>
    simp only [SV.data, List.all_eq_true] at hd
    refine .agg vs fun j x hj => ?_
    exact cell (hd x (List.mem_of_getElem? hj)) (fun e => by simp only [SV.noFz, List.all_eq_true] at e; exact e x (List.mem_of_getElem? hj)) (h j x hj)
  | tup vs h =>
    simp only [SV.data, List.all_eq_true] at hd
    refine .tup vs fun j x hj => ?_
    have hm := List.mem_of_getElem? hj
    have hdx := hd x hm
    have hnx : (SV.tup _).noFz = true → _ := fun e => by simp only [SV.noFz, List.all_eq_true] at e; exact e x hm
    have hx := h j x hj
    revert hx
    generalize vs j = u
    intro hx
    cases hx with
    | c hx => exact .c (cell hdx (fun e => hnx e) hx)
    | agg us hx =>
      simp only [Bool.and_eq_true, List.all_eq_true] at hdx
      refine .agg us fun i y hi => ?_
      exact cell (hdx.1 y (List.mem_of_getElem? hi)) (fun e => by have := hnx e; simp only [List.all_eq_true] at this; exact this y (List.mem_of_getElem? hi)) (hx i y hi)
    | tup us hx => cases hdx
theorem SV.data_flat {sv : SV} (h : sv.data = true) : sv.flat = true := by
  cases sv with
  | tup l =>
    simp only [SV.data, SV.flat, List.all_eq_true] at *
    intro x hx
    have := h x hx
    cases x with
    | c y => rfl
    | agg row => simp only [Bool.and_eq_true] at this; exact this.2
    | tup l => cases this
  | _ => rfl
theorem SV.data_roots {sv : SV} (h : sv.data = true) : sv.roots = [] := by
  have cell : ∀ {x : C}, x.data = true → x.roots = [] := by
    intro x hx
    cases x with
    | t y => rfl
    | _ => cases hx
  have row : ∀ {l : List C}, l.all C.data = true → C.rootsL l = [] := by
    intro l hl
    rw [List.eq_nil_iff_forall_not_mem]
    intro r hr
    obtain ⟨z, hz, hr⟩ := C.mem_rootsL.1 hr
    simp only [List.all_eq_true] at hl
    rw [cell (hl z hz)] at hr
    cases hr
  cases sv with
  | c x => exact cell h
  | agg l => exact row h
  | tup l =>
    simp only [SV.roots]
    rw [List.eq_nil_iff_forall_not_mem]
    intro r hr
    obtain ⟨z, hz, hr⟩ := SV.mem_rootsL.1 hr
    simp only [SV.data, List.all_eq_true] at h
    have := h z hz
    cases z with
    | c x => simp only [SV.roots] at hr; rw [cell this] at hr; cases hr
    | agg l => simp only [Bool.and_eq_true] at this; simp only [SV.roots] at hr; rw [row this.1] at hr; cases hr
    | tup l => cases this

/-- The callee's ghost. -/
def calleeGh (g : Gh) (cl : Bool) : Gh :=
  { g with ow := fun b => match g.ow b with
    | .own _ => if cl then .other else .frozen
    | .box _ => .other
    | t => t }
/-- The caller's ghost, after. -/
noncomputable def backGh (n : Nat) (r0 : Root) (g gh : Gh) : Gh :=
  { g with
    ow := fun b => if b < n then g.ow b else match gh.ow b with
      | .own a => if a.root = .ret then .own { a with root := r0 } else .other
      | .box _ => .other
      | t => t
    hd := fun a => if a.root = r0 then gh.hd { a with root := .ret } else g.hd a }

section
variable {E : Env} {N : Nat} {o : Oper} {σ : Sg}
theorem call_gen (hN : okOper N o = true) {f : Nat} {fa : List SV} {cl : Bool} {res : SV} {ok : Prop} (hdata : res.data = true) (hret : Returns E f fa [] res []) (hcl : cl = true ∨ res.noFz = true) (hput : ((put o res [] ok).run σ).ok)
    {a : Act} {w : World} {g : Gh} (hc : Core E σ a.tmps w g) (hs : a.tmps.size = N) (hl : LIM ≤ g.lim) {vals : Array Value} (s1 : vals.size = fa.length) (s2 : ∀ z ∈ fa, z.roots = [] ∧ z.flat = true)
    (hargs : ∀ (n : Nat) (z : SV) (r : Root), fa[n]? = some z → SVRep w (calleeGh g cl) noDirt r 0 z (vals.getD n undef)) (hex : (execOp a.eval o).run E.P w = .ok (.enter f vals) w)
    {K : Act → World → Prop} {Q : Exit → Act → World → Prop} (hK : ∀ a' w' g', Core E (σ.upds ((put o res [] ok).run σ).upd) a'.tmps w' g' → Move w g w' g' → a'.tmps.size = N → a'.defers = a.defers → K a' w') : o.wp E.P a w K Q := by
  obtain ⟨_, h2, h3⟩ := put_ok hput
  obtain ⟨hcall, hrun⟩ := hret
  have hlim : (calleeGh g cl).lim = g.lim := rfl
  have htag : ∀ b, (calleeGh g cl).ow b = .frozen ∨ (calleeGh g cl).ow b = .other := by
    intro b
    simp only [calleeGh]
    cases g.ow b with
    | own a => simp only; cases cl <;> simp
    | box k => simp
    | frozen => simp
    | other => simp
  have hent : Core E (entrySt fa []).sg vals w (calleeGh g cl) := by
    refine ⟨fun n => ?_, fun n => ?_, fun n r hr => ?_, fun k c r hr => ?_, fun k kd hk => ?_, fun k es hk => ?_, fun b hb => ?_, hc.size⟩
    · show SVRep w _ noDirt (.slot n) 0 ((entrySt fa []).slot n) _
      rw [entry_slot]
      cases hn : fa[n]? with
      | none => exact .c (.t (.fro .top))
      | some z => exact hargs n z _ hn
    · show ((entrySt fa []).slot n).flat = true
      rw [entry_slot]
      cases hn : fa[n]? with
      | none => rfl
      | some z => exact (s2 z (List.mem_of_getElem? hn)).2
    · have hr : r ∈ ((entrySt fa []).slot n).roots := hr
      rw [entry_slot] at hr
      cases hn : fa[n]? with
      | none => rw [hn] at hr; simp [SV.roots, C.roots] at hr
      | some z =>
        rw [hn] at hr
        simp only [Option.getD_some] at hr
        rw [(s2 z (List.mem_of_getElem? hn)).1] at hr
        cases hr
    · have hr : r ∈ ((entrySt fa []).cell k c).roots := hr
      simp [St.cell, entrySt, obsOf, visOf, lk, C.roots] at hr
    · have hk : (entrySt fa []).kind k = some kd := hk
      simp [St.kind, entrySt, obsOf, visOf, lk] at hk
    · have hk : (entrySt fa []).map k = some es := hk
      simp [St.map, entrySt, mpsOf, lk] at hk
    · obtain ⟨e1, e2⟩ := hc.glob b hb
      exact ⟨by simp [calleeGh, e1], e2⟩
  unfold Oper.wp
  rw [hex, Oper.upon_enter]
  refine Calls.mono (hrun w (calleeGh g cl) vals hl s1 hent) fun e w' he => ?_
  cases e with
  | returned v =>
    obtain ⟨gh', hres, _, hmv⟩ := he
    simp only
    -- the caller's ghost
    have hmem : ∀ b, b < w.heap.size → gh'.ow b = (calleeGh g cl).ow b ∧ w'.heap[b]? = w.heap[b]? := fun b hb => hmv.keep b hb (htag b)
    have main : ∀ (r0 : Root), ¬ σ.ex r0 → Core E σ a.tmps w' (backGh w.heap.size r0 g gh') ∧ Move w g w' (backGh w.heap.size r0 g gh') ∧ SVRep w' (backGh w.heap.size r0 g gh') σ.dirty r0 0 res v := by
      intro r0 hr0
      have how : ∀ b, b < w.heap.size → (backGh w.heap.size r0 g gh').ow b = g.ow b := fun b hb => by simp only [backGh]; rw [if_pos hb]
      have hhd : ∀ r c p, σ.ex r → (backGh w.heap.size r0 g gh').hd ⟨r, c, p⟩ = g.hd ⟨r, c, p⟩ := fun r c p hr => by
        simp only [backGh]
        rw [if_neg]
        rintro rfl
        exact hr0 hr
      have hst : ∀ r c, σ.ex r → Still w w' g (backGh w.heap.size r0 g gh') r c := fun r c hr => ⟨fun b p hb h => ⟨(how b hb).trans h, (hmem b hb).2⟩, fun p => hhd r c p hr⟩
      refine ⟨?_, ⟨hmv.size, rfl, fun b hb _ => ⟨how b hb, (hmem b hb).2⟩, fun _ _ => rfl, fun b k hb _ h => ⟨(how b hb).trans h, fun cs el fr hh => ⟨cs, (hmem b hb).2.trans hh, rfl, fun _ _ => rfl⟩⟩, hmv.env, fun k c p hk _ => hhd _ c p (.inl (by omega))⟩, ?_⟩
      · exact Core.step hc ⟨Nat.le_refl _, fun b hb h => ⟨(how b hb).trans h, (hmem b hb).2⟩, fun r c hr hd => ⟨hd, fun p => hhd r c p hr⟩, fun _ _ => rfl⟩
          (fun n => .inl ⟨rfl, rfl, rfl, fun c => hst _ c (σ.rt_ex n)⟩) (fun k kd h => .inl ⟨h, fun c => ⟨rfl, hst _ c (.inr (.inl (by rw [h]; simp)))⟩, fun hb h => ⟨(how _ hb).trans h, (hmem _ hb).2⟩⟩) (fun k c => .inl rfl)
          (fun k es h => .inl ⟨h, fun hb h => ⟨(how _ hb).trans h, (hmem _ hb).2⟩⟩) (fun _ h => h) (fun b hb => ⟨how b (Nat.lt_of_lt_of_le hb hc.size), (hmem b (Nat.lt_of_lt_of_le hb hc.size)).2⟩) hmv.size
      · refine hres.mapData hdata fun c t u hn hr => ?_
        have hlim2 : gh'.lim ≤ (backGh w.heap.size r0 g gh').lim := by rw [hmv.lim]; exact Nat.le_refl _
        have hown : ∀ b a', a'.under ⟨.ret, c, []⟩ → gh'.ow b = .own a' → (backGh w.heap.size r0 g gh').ow b = .own { a' with root := r0 } := by
          intro b a' ha hb
          simp only [backGh]
          rw [if_neg]
          · rw [hb]
            simp only
            rw [if_pos ha.1]
          · intro hlt
            have := (hmem b hlt).1
            rw [hb] at this
            rcases htag b with q | q <;> rw [q] at this <;> cases this
        have hh : ∀ a', a'.under ⟨.ret, c, []⟩ → (backGh w.heap.size r0 g gh').hd { a' with root := r0 } = gh'.hd a' := by
          intro a' ha
          simp only [backGh, if_true]
          congr 1
          cases a'
          have := ha.1
          simp only at this
          simp [this]
        rcases hcl with hcl | hnf
        · subst hcl
          refine hr.map (fun a' => { a' with root := r0 }) hlim2 (fun _ _ _ => rfl) (fun b hb h => ⟨?_, rfl⟩) (fun b a' hb ha h => ⟨hown b a' ha h, rfl⟩) (fun a' ha => hh a' ha)
          simp only [backGh]
          by_cases hlt : b < w.heap.size
          · rw [if_pos hlt]
            have := (hmem b hlt).1
            rw [h] at this
            simp only [calleeGh] at this
            cases hg : g.ow b with
            | frozen => rfl
            | own a => rw [hg] at this; simp at this
            | box k => rw [hg] at this; simp at this
            | other => rw [hg] at this; simp at this
          · rw [if_neg hlt, h]
        · exact hr.mapN (fun a' => { a' with root := r0 }) (hn hnf) hlim2 (fun _ _ _ => rfl) (fun b a' hb ha h => ⟨hown b a' ha h, rfl⟩) (fun a' ha => hh a' ha)
    cases hd : o.dst with
    | none =>
      obtain ⟨e1, _⟩ := h3 hd
      obtain ⟨m1, m2, _⟩ := main .ret (fun h => h)
      refine hK _ w' _ ?_ m2 hs rfl
      rw [e1]
      exact m1
    | some d =>
      obtain ⟨hn, e1, _⟩ := h2 d hd
      obtain ⟨m1, m2, m3⟩ := main (.new d) (fun h => by simp [Sg.ex, hn] at h)
      refine hK _ w' _ ?_ m2 (by simpa [Act.put] using hs) rfl
      rw [e1]
      exact m1.put hn m3 (by rw [SV.data_roots hdata]; simp) (SV.data_flat hdata) (.inl (by rw [hs]; exact dst_lt hN hd))
  | panicked c => exact he.elim
  | outgrown => exact he.elim
theorem bridge_callee (g : Gh) (cl : Bool) : Bridge g (calleeGh g cl) cl := ⟨rfl, fun b hb => by simp [calleeGh, hb], fun hcl b a hb => by simp [calleeGh, hb, hcl]⟩
theorem call0_ok (hN : okOper N o = true) {f : Nat} {xs : Array Operand} {ats : Array TypeId} {an : Ans} (ho : o.op = .call { callee := .value (.func f), args := xs, argTypes := ats })
    (h : ((stepCall0 (Returns E) o f xs.toList an).run σ).ok) : OpOK E N o σ ((stepCall0 (Returns E) o f xs.toList an).run σ).upd := by
  have hopd : ∀ x ∈ xs.toList, okOpd x = true := fun x hx => okOper_opd hN (by
    rw [ho]
    simp only [Op.operands, Call.operands]
    simp at hx
    simp [hx])
  unfold stepCall0 at h ⊢
  obtain ⟨fa, p, cl, hP, e⟩ := passArgs_ok (E := E) xs.toList h
  rw [e] at h ⊢
  obtain ⟨⟨hdata, hret, hp, hcl⟩, _, _⟩ := put_ok h
  obtain ⟨s1, s2, s3⟩ := hP.spec
  have hcall := hret.1
  intro a w g hc hs hl K Q hK
  have hargs := s3 hp a w g _ hc hl hopd (bridge_callee g cl)
  refine call_gen hN hdata hret hcl h hc hs hl (vals := xs.map a.eval) (by simp [s1]) s2 (fun n z r hn => ?_) ?_ hK
  · have hlt := lt_of_getElem? hn
    have hlt' : n < xs.toList.length := by omega
    have := hargs n xs.toList[n] z r (List.getElem?_eq_getElem hlt') hn
    have e2 : (xs.map a.eval).getD n undef = a.eval xs.toList[n] := by
      have hlt2 : n < xs.size := by simpa using hlt'
      simp [Array.getD_eq_getD_getElem?, hlt2]
    rw [e2]
    exact this
  · simp only [execOp, ho, resolve, Act.eval, Deferred.ofValue, Sem.run_bind, Sem.run_pure, Result.andThen_ok, invoke]
    simpa using hcall (xs.map a.eval) w
/-- A call of a closure. -/
def stepV0 (R : Rel) (o : Oper) (g : Nat) (args : List Operand) (caps : List C) (an : Ans) : Rd Eff :=
  passArgs [] args fun fa p c1 => passL [] caps fun cs q c2 => put o an.res [] (an.res.data = true ∧ R g (fa ++ cs.map SV.c) [] an.res [] ∧ (p ∧ q) ∧ ((c1 && c2) = true ∨ an.res.noFz = true))
theorem callv0_ok (hN : okOper N o = true) {n : Nat} {xs : Array Operand} {ats : Array TypeId} {an : Ans} (ho : o.op = .call { callee := .value (.tmp n), args := xs, argTypes := ats }) {f : Nat} {caps : List C} (hslot : σ.slot n = .c (.clo f caps))
    (h : ((stepV0 (Returns E) o f xs.toList caps an).run σ).ok) : OpOK E N o σ ((stepV0 (Returns E) o f xs.toList caps an).run σ).upd := by
  have hopd : ∀ x ∈ xs.toList, okOpd x = true := fun x hx => okOper_opd hN (by
    rw [ho]
    simp only [Op.operands, Call.operands]
    simp at hx
    simp [hx])
  unfold stepV0 at h ⊢
  obtain ⟨fa, p, c1, hP, e⟩ := passArgs_ok (E := E) xs.toList h
  rw [e] at h ⊢
  obtain ⟨cs, p2, c2, hP2, e'⟩ := passL_ok (E := E) caps h
  rw [e'] at h ⊢
  obtain ⟨⟨hdata, hret, ⟨hp, hp2⟩, hcl⟩, _, _⟩ := put_ok h
  obtain ⟨s1, s2, s3⟩ := hP.spec
  obtain ⟨t1, t2, t3⟩ := hP2.spec
  have hcall := hret.1
  intro a w g hc hs hl K Q hK
  have hbr := bridge_callee g (c1 && c2)
  have hargs := s3 hp a w g _ hc hl hopd hbr.left
  have hv := hc.slots n
  rw [hslot] at hv
  generalize hval : a.tmps.getD n undef = v at hv
  cases hv with
  | c hv =>
    cases hv with
    | clo vs hn hcap =>
      refine call_gen hN (cl := c1 && c2) hdata hret hcl h hc hs hl (vals := xs.map a.eval ++ ((List.range caps.length).map vs).toArray) (by simp [s1, t1]) (fun z hz => ?_) (fun n z r hn' => ?_) ?_ hK
      · rcases List.mem_append.1 hz with e | e
        · exact s2 z e
        · obtain ⟨x, hx, rfl⟩ := List.mem_map.1 e
          exact ⟨(t2 x hx).2, rfl⟩
      · by_cases hlt : n < fa.length
        · rw [List.getElem?_append_left hlt] at hn'
          have hlt' : n < xs.toList.length := by omega
          have hlt2 : n < xs.size := by simpa using hlt'
          have := hargs n xs.toList[n] z r (List.getElem?_eq_getElem hlt') hn'
          have e2 : (xs.map a.eval ++ ((List.range caps.length).map vs).toArray).getD n undef = a.eval xs.toList[n] := by
            simp only [Array.getD_eq_getD_getElem?]
            rw [Array.getElem?_append_left (by simpa using hlt2)]
            simp [hlt2]
          rw [e2]
          exact this
        · rw [List.getElem?_append_right (by omega)] at hn'
          have hj := lt_of_getElem? hn'
          simp only [List.length_map] at hj
          simp only [List.getElem?_map, Option.map_eq_some_iff] at hn'
          obtain ⟨x, hx, rfl⟩ := hn'
          have hjc : n - fa.length < caps.length := by omega
          have hsz : xs.size = fa.length := by simpa using s1.symm
          have e2 : (xs.map a.eval ++ ((List.range caps.length).map vs).toArray).getD n undef = vs (n - fa.length) := by
            simp only [Array.getD_eq_getD_getElem?]
            rw [Array.getElem?_append_right (by simp; omega)]
            simp [hsz, hjc]
          rw [e2]
          have key := t3 hp2 a.tmps w g _ hc hbr.right (n - fa.length) caps[n - fa.length] x (vs (n - fa.length)) ⟨r, 0, []⟩ (List.getElem?_eq_getElem hjc) hx (hn _ (List.getElem_mem hjc)) ((hcap _ _ (List.getElem?_eq_getElem hjc)).repos (hn _ (List.getElem_mem hjc)))
          exact .c key
      · have he : a.eval (.tmp n) = .func (.func f) #[] ((List.range caps.length).map vs).toArray := hval
        simp only [execOp, ho, resolve, he, Deferred.ofValue, Sem.run_bind, Sem.run_pure, Result.andThen_ok, invoke]
        simpa using hcall _ w
end
end Vx

namespace Vx
open Go Classical
set_option linter.unusedSimpArgs false
set_option linter.unusedVariables false

/-- A new slice, in a new block. -/
theorem Core.newslice {E : Env} {σ : Sg} {tmps : Array Value} {w : World} {g : Gh} (hc : Core E σ tmps w g) {d : Nat} (hd : d < tmps.size) (hn : σ.isnew d = false) {xs : List (List T)} {sz cap : Nat} {cs : Array Value} {el : TypeId} (vs : Nat → Nat → Value)
    (hsize : cs.size = cap * sz) (hcap : xs.length ≤ cap) (hlim : xs.length ≤ g.lim) (hrow : ∀ row ∈ xs, row.length = sz) (hcell : ∀ i c, i < xs.length → c < sz → cs[i * sz + c]? = some (vs i c))
    (hrec : ∀ (i : Nat) (row : List T) (c : Nat) (t : T), xs[i]? = some row → row[c]? = some t → Rep w g ⟨.new d, 0, [⟨i, sz, c⟩]⟩ t (vs i c)) :
    ∃ g', Core E (σ.upd (.slot d (.c (.t (.sl true sz xs))))) (tmps.setIfInBounds d (.slice (some ⟨w.heap.size, 0, none⟩) xs.length cap)) (w.alloc (.cells cs el (0, 0))) g' ∧ Move w g (w.alloc (.cells cs el (0, 0))) g' := by
  let hdr : Value := .slice (some ⟨w.heap.size, 0, none⟩) xs.length cap
  let hdf : CA → Value := fun a => if a = ⟨.new d, 0, []⟩ then hdr else g.hd a
  have hex : ∀ r c p, σ.ex r → hdf ⟨r, c, p⟩ = g.hd ⟨r, c, p⟩ := by
    intro r c p hr
    simp only [hdf]
    rw [if_neg]
    intro e
    cases e
    simp [Sg.ex, hn] at hr
  have hc1 := hc.fresh (ob := .cells cs el (0, 0)) (tag := .own ⟨.new d, 0, []⟩) (hd := hdf) (bl := g.bl) hex (fun _ _ => rfl)
  refine ⟨_, hc1.put hn (.c (.t ?_)) (by simp [SV.roots, C.roots]) rfl (.inl hd), fresh_move (w := w) (ob := .cells cs el (0, 0)) (fun _ _ => rfl) (fun k c p => by simp only [hdf]; rw [if_neg]; intro e; cases e)⟩
  refine .own (off := 0) (cs := cs) (el := el) vs ?_ (plus_new _ _) ?_ (by simpa using hsize) hcap hlim hrow (fun i c h1 h2 => by rw [Nat.zero_add]; exact hcell i c h1 h2) fun i row c t h1 h2 => ?_
  · simp [Gh.fresh, hdf, hdr]
  · simp [Gh.fresh]
  · refine (hrec i row c t h1 h2).fresh fun a' ha => ?_
    simp only [hdf]
    rw [if_neg]
    rintro rfl
    obtain ⟨_, _, s, e⟩ := ha
    simp at e

theorem mod_row (i sz c : Nat) (h : c < sz) : (i * sz + c) % sz = c := by
  rw [Nat.mul_comm, Nat.mul_add_mod, Nat.mod_eq_of_lt h]
theorem div_row (i sz c : Nat) (h : c < sz) : (i * sz + c) / sz = i := by
  have hpos : 0 < sz := by omega
  rw [Nat.mul_comm, Nat.mul_add_div hpos, Nat.div_eq_of_lt h]; rfl
theorem row_lt {i sz c n : Nat} (hi : i < n) (hc : c < sz) : i * sz + c < n * sz := by
  have : (i + 1) * sz ≤ n * sz := Nat.mul_le_mul_right sz hi
  rw [Nat.add_mul] at this
  omega

section
variable {E : Env} {N : Nat} {o : Oper} {σ : Sg}
theorem zero_at {w : World} {g : Gh} (hl : LIM ≤ g.lim) {z : Value} {zs : List T} (h1 : zs = z.cells.toList.map T.ofV) (h2 : z.cells.all smallC = true) {c : Nat} {t : T} {u : Value} (ht : zs[c]? = some t) (hu : z.cells[c]? = some u) (a : CA) : Rep w g a t u := by
  obtain ⟨_, q⟩ := zero_rel (w := w) (g := g) (d := noDirt) hl h1 h2 a
  have := (q c (.t t) u (by simp [ht]) hu).1
  cases this with | t h => exact h

theorem ok_makeSlice (hN : okOper N o = true) {t : TypeId} {l c : Operand} (ho : o.op = .makeSlice t l c) (h : ((astep E.P o).run σ).ok) : OpOK E N o σ ((astep E.P o).run σ).upd := by
  have hopl : okOpd l = true := okOper_opd hN (by rw [ho]; simp [Op.operands])
  have hopc : okOpd c = true := okOper_opd hN (by rw [ho]; simp [Op.operands])
  simp only [astep, ho] at h ⊢
  cases hi : tinfo E.P t with
  | none => rw [hi] at h; exact h.elim
  | some i =>
    obtain ⟨kd, agg, size, bytes, zero, fld, el⟩ := i
    cases el with
    | none => rw [hi] at h; exact h.elim
    | some e =>
      rw [hi] at h
      simp only at h ⊢
      cases hei : tinfo E.P e with
      | none => rw [hei] at h; exact h.elim
      | some ei =>
        rw [hei] at h
        simp only at h ⊢
        obtain ⟨ta, e1, ra⟩ := rdT_ok h
        rw [e1] at h ⊢
        obtain ⟨tb, e2, rb⟩ := rdT_ok h
        rw [e2] at h ⊢
        cases ta with
        | int k1 n =>
          cases tb with
          | int k2 m =>
            simp only at h ⊢
            obtain ⟨⟨h0, hnm, hlim, hby, hz2, hz1⟩, p2, p3⟩ := put_ok h
            subst hnm
            obtain ⟨inf, z, a1, a2, a3, a4, a5, a6⟩ := tinfo_zero hei hz1 hz2
            have hu := tinfo_elem hi rfl
            have hby' : ei.bytes = inf.bytes := by
              obtain ⟨inf', d', q1, _, _, q4, _⟩ := tinfo_some hei
              rw [a1] at q1; cases q1; exact q4
            intro a w g hc hs hl K Q hK
            obtain ⟨r1, hx⟩ := ra E a w g hc hl hopl
            obtain ⟨r2, hy⟩ := rb E a w g hc hl hopc
            have hvl : a.eval l = .int k1 n := by
              generalize a.eval l = v at hx
              cases hx with | fro hx => cases hx; rfl
            have hvc : a.eval c = .int k2 n := by
              generalize a.eval c = v at hy
              cases hy with | fro hy => cases hy; rfl
            obtain ⟨nn, rfl⟩ : ∃ nn : Nat, n = nn := ⟨n.toNat, by omega⟩
            have hnn : nn ≤ LIM := by omega
            have hwrap : IntKind.i64.wrap (nn : Int) = nn := by
              have : (nn : Int) ≤ 2 ^ 38 := by unfold LIM at hnn; omega
              rw [IntKind.wrap_i64]
              omega
            have hcsz : nn * ei.size = 0 ↔ nn = 0 := by
              constructor
              · intro q
                rcases Nat.mul_eq_zero.1 q with q | q
                · exact q
                · omega
              · rintro rfl; simp
            let cs : Array Value := (Array.range (nn * ei.size)).map (z.cells[· % z.cells.size]!)
            have hex : (execOp a.eval o).run E.P w = .ok (.value (.slice (some ⟨w.heap.size, 0, none⟩) nn nn)) (w.alloc (.cells cs e (0, 0))) := by
              have hw0 : ¬ ((nn : Int) < 0) := by omega
              have hbig : ¬ ((inf.bytes : Int) * (nn : Int) > 2 ^ 48) := by
                have h1 : inf.bytes * nn ≤ 256 * nn := Nat.mul_le_mul_right nn (by omega)
                have h2 : ((inf.bytes * nn : Nat) : Int) = (inf.bytes : Int) * (nn : Int) := by push_cast; rfl
                unfold LIM at hnn
                omega
              have hwl : ¬ (IntKind.i64.wrap (nn : Int) < 0) := by rw [hwrap]; exact hw0
              simp only [execOp, ho, hvl, hvc]
              have hbig' : ¬ ((281474976710656 : Int) < (inf.bytes : Int) * (nn : Int)) := by simpa using hbig
              by_cases h00 : nn * ei.size = 0
              · have hcs0 : cs = #[] := by simp [cs, h00]
                rw [hcs0]
                simp [Instr.makeSlice, run_underlying hu, asInt, asIntOf, typeInfo, a1, hwrap, hw0, hbig', Go.sizeOf, a5, zeroValue, a2, newRow, h00]
                have e0 : ∀ f : Nat → Value, Array.map f (Array.range 0) = #[] := fun f => Array.size_eq_zero_iff.1 (by simp)
                rw [e0]
              · simp [Instr.makeSlice, run_underlying hu, asInt, asIntOf, typeInfo, a1, hwrap, hw0, hbig', Go.sizeOf, a5, zeroValue, a2, newRow, h00, cs]
            unfold Oper.wp
            rw [hex, Oper.upon_value]
            have hsize : cs.size = nn * ei.size := by simp [cs]
            have hcell : ∀ i c, i < nn → c < ei.size → cs[i * ei.size + c]? = some (z.cells.getD c undef) := by
              intro i c hi hc'
              have hlt := row_lt hi hc'
              have hcz : c < z.cells.size := by omega
              simp only [cs]
              rw [Array.getElem?_map]
              simp [hlt, a6, mod_row i ei.size c hc', Array.getD_eq_getD_getElem?, getElem!_pos z.cells c hcz, Array.getElem?_eq_getElem hcz]
            cases hd : o.dst with
            | none =>
              obtain ⟨e3, _⟩ := p3 hd
              refine hK _ _ _ ?_ (fresh_move (w := w) (g := g) (ob := .cells cs e (0, 0)) (tag := .other) (hd := g.hd) (bl := g.bl) (fun _ _ => rfl) (fun _ _ _ => rfl)) hs rfl
              rw [e3]
              exact hc.fresh (fun _ _ _ _ => rfl) (fun _ _ => rfl)
            | some d =>
              obtain ⟨hn, e3, _⟩ := p2 d hd
              obtain ⟨g', hc', hm⟩ := hc.newslice (d := d) (by rw [hs]; exact dst_lt hN hd) hn (xs := List.replicate nn ei.zero) (sz := ei.size) (cap := nn) (cs := cs) (el := e) (fun _ c => z.cells.getD c undef) hsize (by simp) (by simp; omega) (fun row hr => by rw [(List.mem_replicate.1 hr).2]; exact hz1)
                (fun i c hi hc' => hcell i c (by simpa using hi) hc') (fun i row c t hr ht => by
                  have hrow : row = ei.zero := (List.mem_replicate.1 (List.mem_of_getElem? hr)).2
                  subst hrow
                  have hlt := lt_of_getElem? ht
                  have hcz : c < z.cells.size := by omega
                  exact zero_at hl a3 a4 ht (by simp [Array.getD_eq_getD_getElem?, hcz]) _)
              simp only [List.length_replicate] at hc'
              refine hK _ _ g' ?_ hm (by simpa [Act.put] using hs) rfl
              rw [e3]
              exact hc'
          | _ => exact h.elim
        | _ => exact h.elim
end
end Vx

namespace Vx
open Go Classical
set_option linter.unusedSimpArgs false
set_option linter.unusedVariables false

/-! ## Cells stored into an owned slice -/
theorem sub_some {t x : T} {h : Hop} (e : t.sub h = some x) : ∃ xs row, t = .sl true h.sz xs ∧ xs[h.i]? = some row ∧ row[h.c]? = some x := by
  cases t with
  | sl o sz xs =>
    cases o with
    | true =>
      simp only [T.sub] at e
      by_cases hs : h.sz = sz
      · rw [if_pos hs] at e
        cases hr : xs[h.i]? with
        | none => rw [hr] at e; cases e
        | some row => rw [hr] at e; subst hs; exact ⟨xs, row, rfl, hr, e⟩
      · rw [if_neg hs] at e; cases e
    | false => cases e
  | _ => cases e
theorem sub_setSub {t x u : T} {h : Hop} (e : t.sub h = some x) : (t.setSub h u).sub h = some u := by
  obtain ⟨xs, row, rfl, h1, h2⟩ := sub_some e
  have l1 := lt_of_getElem? h1
  have l2 := lt_of_getElem? h2
  simp only [T.setSub, T.sub, if_true]
  rw [List.getElem?_set_self l1]
  simp [List.getD, h1, l2]
theorem setSub_setSub {t x u v : T} {h : Hop} (e : t.sub h = some x) : (t.setSub h u).setSub h v = t.setSub h v := by
  obtain ⟨xs, row, rfl, h1, h2⟩ := sub_some e
  have l1 := lt_of_getElem? h1
  simp [T.setSub, List.getD, h1, l1]
theorem setSub_self {t x : T} {h : Hop} (e : t.sub h = some x) : t.setSub h x = t := by
  obtain ⟨xs, row, rfl, h1, h2⟩ := sub_some e
  have l1 := lt_of_getElem? h1
  have l2 := lt_of_getElem? h2
  have e1 : row = xs[h.i] := by rw [List.getElem?_eq_getElem l1] at h1; cases h1; rfl
  have e2 : x = row[h.c] := by rw [List.getElem?_eq_getElem l2] at h2; cases h2; rfl
  simp only [T.setSub, List.getD, h1, Option.getD_some]
  rw [e2, List.set_getElem_self, e1, List.set_getElem_self]
theorem at_put_self : ∀ {p : List Hop} {t x u : T}, t.at p = some x → (t.put p u).at p = some u
  | [], t, x, u, _ => rfl
  | h :: p, t, x, u, e => by
    simp only [T.at] at e ⊢
    cases hy : t.at p with
    | none => rw [hy] at e; cases e
    | some y =>
      rw [hy] at e
      simp only [Option.bind_some] at e
      simp only [T.put, hy]
      rw [at_put_self hy]
      exact sub_setSub e
theorem put_put : ∀ {p : List Hop} {t x u v : T}, t.at p = some x → (t.put p u).put p v = t.put p v
  | [], t, x, u, v, _ => rfl
  | h :: p, t, x, u, v, e => by
    simp only [T.at] at e
    cases hy : t.at p with
    | none => rw [hy] at e; cases e
    | some y =>
      rw [hy] at e
      simp only [Option.bind_some] at e
      simp only [T.put, hy, at_put_self hy]
      rw [put_put hy, setSub_setSub e]
theorem put_self : ∀ {p : List Hop} {t x : T}, t.at p = some x → t.put p x = t
  | [], t, x, e => by simp [T.at] at e; exact e.symm
  | h :: p, t, x, e => by
    simp only [T.at] at e
    cases hy : t.at p with
    | none => rw [hy] at e; cases e
    | some y =>
      rw [hy] at e
      simp only [Option.bind_some] at e
      simp only [T.put, hy]
      rw [setSub_self e, put_self hy]
def setCells (y : T) (h : Hop) : List T → T
  | [] => y
  | x :: l => setCells (y.setSub h x) { h with c := h.c + 1 } l
theorem putCells_eq {q : List Hop} : ∀ (ts : List T) (t y : T) (h : Hop), t.at q = some y → (∃ xs row, y = .sl true h.sz xs ∧ xs[h.i]? = some row ∧ h.c + ts.length ≤ row.length) → putCells t h q ts = t.put q (setCells y h ts)
  | [], t, y, h, e, _ => by simp only [putCells, setCells]; rw [put_self e]
  | x :: ts, t, y, h, e, hr => by
    obtain ⟨xs, row, rfl, h1, h2⟩ := hr
    simp only [List.length_cons] at h2
    simp only [putCells, setCells]
    have l1 := lt_of_getElem? h1
    have hput : t.put (h :: q) x = t.put q ((T.sl true h.sz xs).setSub h x) := by simp only [T.put, e]
    rw [hput]
    rw [putCells_eq ts _ ((T.sl true h.sz xs).setSub h x) { h with c := h.c + 1 } (at_put_self e) ⟨xs.set h.i (row.set h.c x), row.set h.c x, by simp [T.setSub, List.getD, h1], by simp [l1], by simp; omega⟩, put_put e]
theorem setCells_eq : ∀ (ts : List T) (h : Hop) (xs : List (List T)) (row : List T), xs[h.i]? = some row → h.c + ts.length ≤ row.length →
    setCells (.sl true h.sz xs) h ts = .sl true h.sz (xs.set h.i (row.take h.c ++ ts ++ row.drop (h.c + ts.length)))
  | [], h, xs, row, h1, h2 => by
    have l1 := lt_of_getElem? h1
    have e1 : row = xs[h.i] := by rw [List.getElem?_eq_getElem l1] at h1; cases h1; rfl
    simp only [setCells, List.append_nil, List.length_nil, Nat.add_zero, List.take_append_drop]
    rw [e1, List.set_getElem_self]
  | x :: ts, h, xs, row, h1, h2 => by
    have l1 := lt_of_getElem? h1
    simp only [List.length_cons] at h2
    simp only [setCells, T.setSub, List.getD, h1, Option.getD_some]
    have := setCells_eq ts { h with c := h.c + 1 } (xs.set h.i (row.set h.c x)) (row.set h.c x) (by simp [l1]) (by simp; omega)
    simp only at this
    rw [this]
    congr 1
    rw [List.set_set]
    congr 1
    have e1 : (row.set h.c x).take (h.c + 1) = row.take h.c ++ [x] := by
      apply List.ext_getElem?
      intro k
      rw [List.getElem?_take]
      have hl : (row.take h.c).length = h.c := by simp; omega
      by_cases k1 : k < h.c
      · rw [if_pos (by omega), List.getElem?_append_left (by omega), List.getElem?_take, if_pos k1, List.getElem?_set_ne (by omega)]
      · by_cases k2 : k = h.c
        · subst k2
          rw [if_pos (by omega), List.getElem?_append_right (by omega), List.getElem?_set_self (by omega), hl]
          simp
        · rw [if_neg (by omega), List.getElem?_append_right (by omega), hl]
          rw [List.getElem?_eq_none (by simp; omega)]
    have e2 : (row.set h.c x).drop (h.c + 1 + ts.length) = row.drop (h.c + (ts.length + 1)) := by
      apply List.ext_getElem?
      intro k
      rw [List.getElem?_drop, List.getElem?_drop, List.getElem?_set_ne (by omega)]
      congr 1
      omega
    rw [e1, e2]
    simp
end Vx

namespace Vx
open Go Classical
set_option linter.unusedSimpArgs false
set_option linter.unusedVariables false

/-- From the scratch root into cells of an owned slice's row: those of `ts` that own. -/
def pathRen (r : Root) (c : Nat) (h : Hop) (q : List Hop) (ts : List T) : Ren where
  S a := a.root = .ret ∧ ∃ x, ts[a.c]? = some x ∧ x.isOwn = true
  D a := a.root = r ∧ a.c = c ∧ ∃ s j x, a.path = s ++ { h with c := h.c + j } :: q ∧ ts[j]? = some x ∧ x.isOwn = true
  f a := ⟨r, c, a.path ++ { h with c := h.c + a.c } :: q⟩
  fi a := ⟨.ret, (a.path.getD (a.path.length - q.length - 1) default).c - h.c, a.path.take (a.path.length - q.length - 1)⟩
  inv := by
    rintro ⟨r0, j, p⟩ ⟨h1, x, h2, h3⟩
    simp only at h1 h2
    subst h1
    refine ⟨⟨rfl, rfl, p, j, x, rfl, h2, h3⟩, ?_⟩
    simp only [List.length_append, List.length_cons, CA.mk.injEq, true_and]
    rw [show p.length + (q.length + 1) - q.length - 1 = p.length by omega]
    constructor
    · simp [List.getD]
    · simp
  hop := by
    rintro ⟨r0, j, p⟩ h1 x
    exact ⟨h1, rfl⟩

theorem Rep.own_inv {w : World} {g : Gh} {a : CA} {sz : Nat} {xs : List (List T)} {v : Value} (h : Rep w g a (.sl true sz xs) v) (hne : xs ≠ []) : ∃ (b off cap : Nat) (cs : Array Value) (el : TypeId) (vs : Nat → Nat → Value), v = .slice (some ⟨b, off, none⟩) xs.length cap ∧
    g.hd a = .slice (some ⟨b, off, none⟩) xs.length cap ∧ w.heap[b]? = some (.cells cs el (0, 0)) ∧ g.ow b = .own a ∧ cs.size = off + cap * sz ∧ xs.length ≤ cap ∧ xs.length ≤ g.lim ∧ (∀ row ∈ xs, row.length = sz) ∧
    (∀ i c, i < xs.length → c < sz → cs[off + i * sz + c]? = some (vs i c)) ∧ ∀ (i : Nat) (row : List T) (c : Nat) (t : T), xs[i]? = some row → row[c]? = some t → Rep w g (a.hop ⟨i, sz, c⟩) t (vs i c) := by
  cases h with
  | fro h => exact h.noOwn.elim
  | onil => exact absurd rfl hne
  | own vs hd hh ho hsize hcap hlim hrow hcell hrec => exact ⟨_, _, _, _, _, vs, rfl, hd, hh, ho, hsize, hcap, hlim, hrow, hcell, hrec⟩
theorem Rep.ren2 {w w' : World} {g : Gh} {R : Ren} {p : CA} {t : T} {v : Value} (h : Rep w g p t v) (hf : ∀ b, b < w.heap.size → g.ow b = .frozen → w'.heap[b]? = w.heap[b]?)
    (hm : ∀ b a', b < w.heap.size → a'.under p → g.ow b = .own a' → w'.heap[b]? = w.heap[b]?) (hp : R.S p) : Rep w' (g.ren R) (R.f p) t v :=
  Rep.map (w' := w') (g' := g.ren R) R.f h (Nat.le_refl _) (fun a' ha s => (R.hop a' (R.under ha hp) s).2)
    (fun b hlt hb => ⟨Gh.ren_fz hb, hf b hlt hb⟩) (fun b a' hlt ha hb => ⟨by simp [Gh.ren, hb, R.under ha hp], hm b a' hlt ha hb⟩)
    (fun a' ha => by
      obtain ⟨h1, h2⟩ := R.inv a' (R.under ha hp)
      show (if R.D (R.f a') then g.hd (R.fi (R.f a')) else g.hd (R.f a')) = g.hd a'
      rw [if_pos h1, h2])

theorem splice_get {cs : Array Value} {vs : Nat → Value} {base n : Nat} (hle : base + n ≤ cs.size) (i : Nat) :
    ((cs.toList.take base ++ (List.range n).map vs ++ cs.toList.drop (base + n)).toArray)[i]? = if base ≤ i ∧ i < base + n then some (vs (i - base)) else cs[i]? := by
  simp only [List.getElem?_toArray]
  have hl1 : (cs.toList.take base).length = base := by simp; omega
  rw [List.append_assoc, List.getElem?_append, hl1]
  by_cases h1 : i < base
  · rw [if_pos h1, if_neg (by omega), List.getElem?_take, if_pos h1]
    simp
  · rw [if_neg h1, List.getElem?_append]
    simp only [List.length_map, List.length_range]
    by_cases h2 : i - base < n
    · rw [if_pos h2, if_pos (by omega)]
      simp [h2]
    · rw [if_neg h2, if_neg (by omega), List.getElem?_drop]
      simp only [Array.getElem?_toList]
      congr 1
      omega
theorem TkL.place {σ : Sg} {l l' : List C} {us : List Upd} (h : TkL σ l l' us) : ∀ (τ : Sg), (∀ r c t, Upd.hole r c ∈ us → PlaceIs σ r c t → PlaceIs τ r c t) → distinct (keysOf us) = true → ∀ {r : Root} {c : Nat} {t : T}, PlaceIs τ r c t → Key.place r c ∉ keysOf us → PlaceIs (τ.upds us) r c t := by
  induction h with
  | nil => intro τ _ _ r c t hp _; exact hp
  | keep h ih => exact ih
  | @take r0 c0 t0 l l' us hp0 ht h ih =>
    intro τ hpl hdi r c t hp hk
    rw [distinct_iff] at hdi
    simp only [keysOf, Upd.key, List.singleton_append, List.nodup_cons] at hdi
    simp only [keysOf, Upd.key, List.singleton_append, List.mem_cons, not_or] at hk
    have hp1 := hpl r0 c0 t0 (by simp) hp0
    exact ih (τ.upd (.set r0 c0 (t0.put [] .top))) (fun r' c' t' hm hp' => hp1.hole (hpl r' c' t' (by simp [hm]) hp') (by
      rintro ⟨rfl, rfl⟩
      exact hdi.1 (keysOf_mem hm (by simp [Upd.key])))) ((distinct_iff _).2 hdi.2) (hp1.hole hp (by
      rintro ⟨rfl, rfl⟩
      exact hk.1 rfl)) hk.2

section
variable {E : Env} {N : Nat} {o : Oper} {σ : Sg}
/-- Cells written into a row of an owned slice. -/
theorem Core.storePath {tmps : Array Value} {w : World} {g : Gh} (hc : Core E σ tmps w g) {r : Root} {c : Nat} {t : T} {h : Hop} {q : List Hop} {xs : List (List T)} {row : List T} (hp : PlaceIs σ r c t) (hy : t.at q = some (.sl true h.sz xs))
    (hrow : xs[h.i]? = some row) {ts : List T} (hvk : ts.any T.isOwn = true → ∀ k, r = .obj k → k < 1000 → (g.bl k).2.2 ≠ 0) (hlen : h.c + ts.length ≤ row.length) {vs : Nat → Value} (hts : ∀ j x, ts[j]? = some x → Rep w g ⟨.ret, j, []⟩ x (vs j)) :
    ∃ b off n cap cs el, g.hd ⟨r, c, q⟩ = .slice (some ⟨b, off, none⟩) n cap ∧ w.heap[b]? = some (.cells cs el (0, 0)) ∧ off + h.i * h.sz + h.c + ts.length ≤ cs.size ∧
      ∀ (d' : Dirt), (∀ r' c', d' r' c' = false → σ.dirty r' c' = false) → (ts.any T.isOwn = true → d' r c = true) → ∀ cs', cs' = (cs.toList.take (off + h.i * h.sz + h.c) ++ (List.range ts.length).map vs ++ cs.toList.drop (off + h.i * h.sz + h.c + ts.length)).toArray →
        Core E ({ σ with dirty := d' }.upd (.set r c (putCells t h q ts))) tmps (w.setRow b cs') (g.ren (pathRen r c h q ts)) ∧ Move w g (w.setRow b cs') (g.ren (pathRen r c h q ts)) := by
  obtain ⟨u0, hu0⟩ := hp.rep hc
  obtain ⟨uy, huy, _⟩ := hu0.at hy
  rw [CA.go_mk] at huy
  have hne : xs ≠ [] := by rintro rfl; simp at hrow
  obtain ⟨b, off, cap, cs, el, vs0, _, hhd, hh, ho, hsize, hcap, hlim, hrw, hcell, hrec⟩ := huy.own_inv hne
  · have hi := lt_of_getElem? hrow
    have hrl : row.length = h.sz := hrw row (List.mem_of_getElem? hrow)
    have hbound : off + h.i * h.sz + h.c + ts.length ≤ cs.size := by
      have h1 : (h.i + 1) * h.sz ≤ cap * h.sz := Nat.mul_le_mul_right _ (by omega)
      rw [Nat.add_mul] at h1
      omega
    refine ⟨b, off, _, cap, cs, el, hhd, hh, hbound, fun d' hd1 hd2 cs' hcs => ?_⟩
    have hget : ∀ i, cs'[i]? = if off + h.i * h.sz + h.c ≤ i ∧ i < off + h.i * h.sz + h.c + ts.length then some (vs (i - (off + h.i * h.sz + h.c))) else cs[i]? := fun i => by rw [hcs]; exact splice_get (vs := vs) hbound i
    have hnb : ∀ b', g.ow b' ≠ .own ⟨r, c, q⟩ → (w.setRow b cs').heap[b']? = w.heap[b']? := fun b' hb => setRow_other w _ b' _ (fun e => hb (e ▸ ho))
    have hS : ∀ r' j p, σ.ex r' → ¬ (pathRen r c h q ts).S ⟨r', j, p⟩ := by
      rintro r' j p hr ⟨h1, _⟩
      simp only at h1
      subst h1
      exact hr
    have hrne : r ≠ .ret := hp.nret
    have hDu : ∀ a, (pathRen r c h q ts).D a → a.under ⟨r, c, q⟩ ∧ a ≠ ⟨r, c, q⟩ ∧ ts.any T.isOwn = true := by
      rintro a ⟨h1, h2, s, j, x, h3, h4, h5⟩
      refine ⟨⟨h1, h2, s ++ [{ h with c := h.c + j }], by rw [h3]; simp⟩, ?_, ?_⟩
      · rintro rfl
        have := congrArg List.length h3
        simp at this
        omega
      · rw [List.any_eq_true]
        exact ⟨x, List.mem_of_getElem? h4, h5⟩
    have hkeep : Keeps w (w.setRow b cs') g (g.ren (pathRen r c h q ts)) d' d' σ.ex := by
      refine ⟨Nat.le_refl _, fun b' hb hf => ⟨Gh.ren_fz hf, hnb b' (by rw [hf]; intro e; cases e)⟩, fun r' j hr hd => ⟨hd, fun p => Gh.ren_hd fun hD => ?_⟩, fun _ _ => rfl⟩
      obtain ⟨e1, _, e3⟩ := hDu _ hD
      have er : r' = r := e1.1
      have ec : j = c := e1.2.1
      subst er ec
      rw [hd2 e3] at hd
      cases hd
    have hex' : ∀ r, σ.ex r → Sg.ex { σ with dirty := d' } r := fun r hr => by cases r <;> exact hr
    have hkeep' : Keeps w (w.setRow b cs') g (g.ren (pathRen r c h q ts)) d' d' (Sg.ex { σ with dirty := d' }) := ⟨hkeep.lim, hkeep.fz, fun r' c' hr => hkeep.ref r' c' (by cases r' <;> exact hr), fun k hr => hkeep.bl k hr⟩
    have hyrep : ∀ u, Rep w g ⟨r, c, []⟩ t u → Rep (w.setRow b cs') (g.ren (pathRen r c h q ts)) ⟨r, c, []⟩ (putCells t h q ts) u := by
      intro u hu
      rw [putCells_eq ts t _ h hy ⟨xs, row, rfl, hrow, hlen⟩, setCells_eq ts h xs row hrow hlen]
      refine Rep.put hu q hy ⟨Nat.le_refl _, fun b' hb hf => ⟨Gh.ren_fz hf, hnb b' (by rw [hf]; intro e; cases e)⟩, fun b' a' hb ha hn ho' => ⟨?_, hnb b' ?_⟩, fun a' ha hn => Gh.ren_hd fun hD => ?_⟩ ?_
      · rw [CA.go_mk] at hn
        simp only [Gh.ren, ho']
        rw [if_neg (by
          rintro ⟨e, _⟩
          rw [ha.1] at e
          exact hrne e), if_neg (fun hD => hn (hDu _ hD).1)]
      · rw [ho']
        intro e
        cases e
        rw [CA.go_mk] at hn
        exact hn (CA.under_refl _)
      · rw [CA.go_mk] at hn
        exact hn (hDu _ hD).1
      · intro u2 hu2
        rw [CA.go_mk] at hu2 ⊢
        obtain ⟨b1, off1, cap1, cs1, el1, vs1, hv1, hhd1, hh1, ho1, hsize1, hcap1, hlim1, hrw1, hcell1, hrec1⟩ := hu2.own_inv hne
        · rw [hv1]
          rw [hhd] at hhd1
          cases hhd1
          rw [hh] at hh1
          cases hh1
          have hlenx : (xs.set h.i (row.take h.c ++ ts ++ row.drop (h.c + ts.length))).length = xs.length := List.length_set
          have hsz' : cs'.size = cs.size := by
            rw [hcs]; simp; omega
          have hnl : (row.take h.c ++ ts ++ row.drop (h.c + ts.length)).length = h.sz := by simp; omega
          have idx : ∀ i c', c' < h.sz → (off + h.i * h.sz + h.c ≤ off + i * h.sz + c' ∧ off + i * h.sz + c' < off + h.i * h.sz + h.c + ts.length ↔ i = h.i ∧ h.c ≤ c' ∧ c' < h.c + ts.length) := by
            intro i c' hc'
            constructor
            · rintro ⟨q1, q2⟩
              have hlt2 : h.c + (ts.length - 1) < h.sz ∨ ts.length = 0 := by omega
              have d1 : (i * h.sz + c') / h.sz = i := div_row _ _ _ hc'
              have : i = h.i := by
                have hb1 : h.i * h.sz ≤ i * h.sz + c' := by omega
                have hb2 : i * h.sz + c' < (h.i + 1) * h.sz := by rw [Nat.add_mul]; omega
                have hpos : 0 < h.sz := by omega
                have e1 : h.i ≤ (i * h.sz + c') / h.sz := (Nat.le_div_iff_mul_le hpos).2 hb1
                have e2 : (i * h.sz + c') / h.sz < h.i + 1 := (Nat.div_lt_iff_lt_mul hpos).2 hb2
                omega
              subst this
              exact ⟨rfl, by omega, by omega⟩
            · rintro ⟨rfl, q1, q2⟩
              omega
          have other : ∀ (i : Nat) (rr : List T) (c' : Nat) (x : T), xs[i]? = some rr → rr[c']? = some x → ¬ (i = h.i ∧ h.c ≤ c' ∧ c' < h.c + ts.length) → Rep (w.setRow b cs') (g.ren (pathRen r c h q ts)) ((⟨r, c, q⟩ : CA).hop ⟨i, h.sz, c'⟩) x (vs1 i c') := by
            intro i rr c' x h1 h2 hno
            have notD : ∀ a', a'.under ((⟨r, c, q⟩ : CA).hop ⟨i, h.sz, c'⟩) → ¬ (pathRen r c h q ts).D a' := by
              rintro a' ha ⟨e1, e2, s, j, x', e3, e4, e5⟩
              have hu : a'.under ((⟨r, c, q⟩ : CA).hop { h with c := h.c + j }) := ⟨e1, e2, s, e3⟩
              have := CA.hop_apart ha hu
              have q1 := congrArg Hop.i this
              have q2 := congrArg Hop.c this
              simp only at q1 q2
              have := lt_of_getElem? e4
              exact hno ⟨q1.symm, by omega, by omega⟩
            refine (hrec1 i rr c' x h1 h2).frame (Nat.le_refl _) (fun b' hb hf => ⟨Gh.ren_fz hf, hnb b' (by rw [hf]; intro e; cases e)⟩) (fun b' a' hb ha ho' => ⟨?_, hnb b' ?_⟩) (fun a' ha => Gh.ren_hd (notD a' ha))
            · simp only [Gh.ren, ho']
              rw [if_neg (by
                rintro ⟨e, _⟩
                exact hrne (ha.1.symm.trans e)), if_neg (notD a' ha)]
            · rw [ho']
              intro e
              cases e
              exact CA.not_under_hop _ _ ha
          have key := Rep.own (w := w.setRow b cs') (g := g.ren (pathRen r c h q ts)) (a := ⟨r, c, q⟩) (b := b) (off := off) (cap := cap) (sz := h.sz) (xs := xs.set h.i (row.take h.c ++ ts ++ row.drop (h.c + ts.length))) (cs := cs') (el := el)
            (fun i c' => if i = h.i ∧ h.c ≤ c' ∧ c' < h.c + ts.length then vs (c' - h.c) else vs1 i c')
            (by rw [Gh.ren_hd (fun hD => (hDu _ hD).2.1 rfl), hhd, hlenx]) (setRow_heap w _ _ _ _ _ hh) (by
              simp only [Gh.ren, ho]
              rw [if_neg (fun hs => hrne hs.1), if_neg (fun hD => (hDu _ hD).2.1 rfl)]) (by rw [hsz']; exact hsize) (by rw [hlenx]; exact hcap) (by rw [hlenx]; exact hlim)
            (fun rr hr => by
              rcases List.mem_or_eq_of_mem_set hr with k | k
              · exact hrw rr k
              · rw [k]; exact hnl)
            (fun i c' h1 h2 => by
              rw [hlenx] at h1
              rw [hget]
              by_cases k : i = h.i ∧ h.c ≤ c' ∧ c' < h.c + ts.length
              · rw [if_pos ((idx i c' h2).2 k), if_pos k]
                obtain ⟨rfl, k1, k2⟩ := k
                congr 2
                omega
              · rw [if_neg (fun e => k ((idx i c' h2).1 e)), if_neg k]
                exact hcell1 i c' h1 h2)
            (fun i rr c' x h1 h2 => by
              by_cases ki : i = h.i
              · subst ki
                rw [List.getElem?_set_self hi] at h1
                cases h1
                by_cases k : h.c ≤ c' ∧ c' < h.c + ts.length
                · rw [if_pos ⟨rfl, k⟩]
                  rw [List.append_assoc, List.getElem?_append_right (by simp; omega), List.getElem?_append_left (by simp; omega)] at h2
                  have hmin : (row.take h.c).length = h.c := by simp; omega
                  rw [hmin] at h2
                  have hr := hts (c' - h.c) x h2
                  by_cases hown : x.isOwn = true
                  · have := hr.ren2 (w' := w.setRow b cs') (R := pathRen r c h q ts) (fun b' _ hf => hnb b' (by rw [hf]; intro e; cases e)) (fun b' a' _ ha hf => hnb b' (by
                      rw [hf]
                      intro e
                      cases e
                      exact hrne ha.1)) ⟨rfl, x, h2, hown⟩
                    simp only [pathRen, List.nil_append] at this
                    rw [show h.c + (c' - h.c) = c' by omega] at this
                    exact this
                  · refine .fro ((hr.isFro fun sz' xs' e => ?_).frame (Nat.le_refl _) fun b' hb hf => ⟨Gh.ren_fz hf, hnb b' (by rw [hf]; intro e; cases e)⟩)
                    subst e
                    exact hown rfl
                · rw [if_neg (fun e => k e.2)]
                  have h2' : row[c']? = some x := by
                    rw [List.append_assoc] at h2
                    have hmin : (row.take h.c).length = h.c := by simp; omega
                    by_cases k1 : c' < h.c
                    · rw [List.getElem?_append_left (by omega), List.getElem?_take, if_pos k1] at h2
                      exact h2
                    · rw [List.getElem?_append_right (by omega), hmin, List.getElem?_append_right (by omega), List.getElem?_drop] at h2
                      rw [← h2]
                      congr 1
                      omega
                  exact other h.i row c' x hrow h2' (fun e => k e.2)
              · rw [List.getElem?_set_ne (fun e => ki e.symm)] at h1
                rw [if_neg (fun e => ki e.1)]
                exact other i rr c' x h1 h2 (fun e => ki e.1))
          rw [hlenx] at key
          exact key
    refine ⟨(hc.dirtier d' hd1).setPlace (w' := w.setRow b cs') (g' := g.ren (pathRen r c h q ts)) ⟨?_, hp.slot, hp.obj, hp.nret⟩ hkeep' (fun r' c' hr hne' => ?_) (fun b' k hb hbx => ⟨Gh.ren_box hbx, hnb b' (by rw [hbx]; intro e; cases e)⟩) (fun b' hb => ⟨by rw [(hc.glob b' hb).1, Gh.ren_other (hc.glob b' hb).1], hnb b' (by rw [(hc.glob b' hb).1]; intro e; cases e)⟩) (by simp) hyrep, ?_⟩
    · exact hex' r hp.ex
    · have hr' : σ.ex r' := by cases r' <;> exact hr
      refine ⟨fun b' p hb ho' => ⟨?_, hnb b' ?_⟩, fun p => Gh.ren_hd fun hD => hne' ⟨(hDu _ hD).1.1, (hDu _ hD).1.2.1⟩⟩
      · simp only [Gh.ren, ho']
        rw [if_neg (hS r' c' p hr'), if_neg (fun hD => hne' ⟨(hDu _ hD).1.1, (hDu _ hD).1.2.1⟩)]
      · rw [ho']
        intro e
        cases e
        exact hne' ⟨rfl, rfl⟩
    · refine ⟨by simp, rfl, fun b' hb hf => ⟨?_, hnb b' (by rcases hf with hf | hf <;> rw [hf] <;> intro e <;> cases e)⟩, fun _ _ => rfl, fun b' k hb _ hbx => ⟨Gh.ren_box hbx, fun cs2 el2 fr2 hh2 => ⟨cs2, (hnb b' (by rw [hbx]; intro e; cases e)).trans hh2, rfl, fun _ _ => rfl⟩⟩, ⟨rfl, rfl, rfl⟩, fun k c2 p hk hz => Gh.ren_hd fun hD => hvk (hDu _ hD).2.2 k (hDu _ hD).1.1.symm hk hz⟩
      rcases hf with hf | hf
      · rw [hf, Gh.ren_fz hf]
      · rw [hf, Gh.ren_other hf]
end
end Vx

namespace Vx
open Go Classical
set_option linter.unusedSimpArgs false
set_option linter.unusedVariables false

section
variable {E : Env} {N : Nat} {o : Oper} {σ : Sg}

theorem dirt_set {τ : Sg} {r : Root} {c : Nat} {t T' : T} (hp : PlaceIs τ r c t) : (τ.upd (.set r c T')).upds (dirtP r c) = { τ with dirty := fun r' j => if r' = r ∧ j = c then true else τ.dirty r' j }.upd (.set r c T') := by
  cases r with
  | slot n =>
    have := (hp.slot n (.inl rfl)).1
    have e : (τ.setP (.slot n) c (.t T')).rt n = .slot n := by rw [Sg.setP_rt, ← this]
    simp only [dirtP, Sg.upds, List.foldl_cons, List.foldl_nil, Sg.upd, e]
    simp [Sg.setP]
  | new n =>
    have := (hp.slot n (.inr rfl)).1
    have e : (τ.setP (.new n) c (.t T')).rt n = .new n := by rw [Sg.setP_rt, ← this]
    simp only [dirtP, Sg.upds, List.foldl_cons, List.foldl_nil, Sg.upd, e]
    simp [Sg.setP]
  | obj k => rfl
  | ret => exact absurd rfl hp.nret

theorem storeOK_ok {r : Root} {ow : Bool} {f : Rd Eff} (h : ((storeOK r ow f).run σ).ok) : (storeOK r ow f).run σ = f.run σ ∧ (ow = true → ∀ k, r = .obj k → k < 1000 → ∃ m, σ.kind k = some (.box m)) := by
  unfold storeOK at h ⊢
  cases ow with
  | false => exact ⟨rfl, fun e => by cases e⟩
  | true =>
    simp only [if_true] at h ⊢
    cases r with
    | obj k =>
      simp only at h ⊢
      by_cases hk : k < 1000
      · simp only [if_pos hk, Rd.run] at h ⊢
        cases hkd : σ.kind k with
        | none => rw [hkd] at h; exact h.elim
        | some kd =>
          cases kd with
          | virt => rw [hkd] at h; exact h.elim
          | box m =>
            refine ⟨rfl, fun _ j e _ => ?_⟩
            cases e
            exact ⟨m, hkd⟩
      · simp only [if_neg hk] at h ⊢
        exact ⟨by simp, fun _ j e h1 => by cases e; omega⟩
    | _ => first | exact ⟨rfl, fun _ j e => by cases e⟩ | exact ⟨trivial, fun _ j e => by cases e⟩
theorem ok_store_path (hN : okOper N o = true) {t : TypeId} {p v : Operand} (ho : o.op = .store t p v) {i : TI} (hi : tinfo E.P t = some i) {r : Root} {c : Nat} {h : Hop} {q : List Hop} {us : List Upd}
    (hp : ∀ (a : Act) w g, Core E σ a.tmps w g → LIM ≤ g.lim → CRep w g σ.dirty ⟨.ret, 0, []⟩ (.ptr ⟨r, c, h :: q⟩) (a.eval p)) {A : Rd Eff}
    (hA : A = takeS v fun ts us => place r c fun t => match atCells t h q ts.length with
        | some _ => storeOK r (ts.any T.isOwn) (Vx.put o undefS (us ++ [.set r c (putCells t h q ts)] ++ (if ts.any T.isOwn then dirtP r c else [])) (ts.length = i.size ∧ 0 < i.size ∧ ts.all T.one = true))
        | none => fail) (hok : (A.run σ).ok) (hus : us = (A.run σ).upd) : OpOK E N o σ us := by
  have hopd : okOpd v = true := okOper_opd hN (by rw [ho]; simp [Op.operands])
  subst hus hA
  unfold takeS at hok ⊢
  obtain ⟨row0, e1, hrow0⟩ := rdRow_ok hok
  rw [e1] at hok ⊢
  obtain ⟨ts, us, ht, e2⟩ := takeL_ok hok
  rw [e2] at hok ⊢
  obtain ⟨tt, e3, hpl⟩ := place_is hok
  rw [e3] at hok ⊢
  cases hat : atCells tt h q ts.length with
  | none => rw [hat] at hok; exact hok.elim
  | some old =>
    rw [hat] at hok
    simp only at hok ⊢
    obtain ⟨e4, hkd⟩ := storeOK_ok hok
    rw [e4] at hok ⊢
    obtain ⟨⟨hs1, hs2, hs3⟩, _, _⟩ := put_ok hok
    have hkeys := keys_left hok
    have hk1 : distinct (keysOf (us ++ [.set r c (putCells tt h q ts)])) = true := distinct_left hkeys
    have hk2 : distinct (keysOf us) = true := distinct_left hk1
    have hk3 : Key.place r c ∉ keysOf us := by
      rw [distinct_iff, keysOf_append] at hk1
      intro hm
      exact (List.nodup_append.1 hk1).2.2 _ hm _ (by simp [keysOf, Upd.key]) rfl
    obtain ⟨hol, hoa⟩ := atCells_spec hat
    have hpos : 0 < ts.length := by omega
    obtain ⟨xs, row, hy, hrow, hlen⟩ : ∃ xs row, tt.at q = some (.sl true h.sz xs) ∧ xs[h.i]? = some row ∧ h.c + ts.length ≤ row.length := by
      have hlast : ts.length - 1 < old.length := by omega
      have h0 := hoa (ts.length - 1) _ (List.getElem?_eq_getElem hlast)
      simp only [T.at] at h0
      cases hq : tt.at q with
      | none => rw [hq] at h0; cases h0
      | some y =>
        rw [hq] at h0
        simp only [Option.bind_some] at h0
        obtain ⟨xs, row, rfl, q1, q2⟩ := sub_some h0
        have := lt_of_getElem? q2
        exact ⟨xs, row, rfl, q1, by simp only at this; omega⟩
    refine OpOK.skip hN hok fun a w g hc hs hl => ?_
    obtain ⟨vs, hcells, hval⟩ := hrow0 E a w g hc hl hopd
    obtain ⟨g1, tk, hr⟩ := ht.at_root hc hk2 (r := .ret) (fun h => h) hcells
    have hpl1 := ht.place σ (fun _ _ _ _ h => h) hk2 hpl hk3
    have hlen0 : row0.length = ts.length := by have := ht.length; simpa using this.symm
    have hts : ∀ j x, ts[j]? = some x → Rep w g1 ⟨.ret, j, []⟩ x (vs j) := by
      intro j x hj
      have := hr j (.t x) (by simp [hj])
      cases this with | t h => exact h
    have hvk : ts.any T.isOwn = true → ∀ k, r = .obj k → k < 1000 → (g1.bl k).2.2 ≠ 0 := by
      intro hw k hr hk
      obtain ⟨m, hm⟩ := hkd hw k hr hk
      have h1 := (hpl.obj k hr).1
      simp only [Sg.inr, hm, inrK, decide_eq_true_eq] at h1
      obtain ⟨_, _, _, _, b3, _⟩ := tk.core.objs k (.box m) (by rw [tk.kind]; exact hm)
      omega
    obtain ⟨b, off, n, cap, cs, el, hhd, hh, hbound, hfin⟩ := tk.core.storePath hpl1 hy hrow hvk hlen hts
    obtain ⟨b', off', n', cap', hhd', hpv⟩ := PRep.path_cons.1 ((hp a w g hc hl).ptr_val (.inr hpl.dirty))
    have heq := (tk.keeps.ref r c hpl.ex hpl.dirty).2 q
    rw [hhd, hhd'] at heq
    cases heq
    have hlv : (a.eval v).cells.toList = (List.range ts.length).map vs := by rw [hval, hlen0]
    have hlv2 : (a.eval v).cells.size = ts.length := by rw [hval, hlen0]; simp
    have hst := run_storeAt (P := E.P) hi (b := b) (off := off + h.i * h.sz + h.c) (v := a.eval v) hh (by rw [hlv2]; exact hs1) (by rw [hlv2]; exact hbound) (fun u hu => by
      have hu' : u ∈ (List.range ts.length).map vs := by rw [← hlv]; simpa using hu
      obtain ⟨j, hj, rfl⟩ := List.mem_map.1 hu'
      have hj' : j < ts.length := by simpa using hj
      simp only [List.all_eq_true] at hs3
      exact (hts j _ (List.getElem?_eq_getElem hj')).one (hs3 _ (List.getElem_mem hj')))
    rw [hlv] at hst
    simp only [List.length_map, List.length_range] at hst
    have hex : (execOp a.eval o).run E.P w = .ok .skip (w.setRow b (cs.toList.take (off + h.i * h.sz + h.c) ++ (List.range ts.length).map vs ++ cs.toList.drop (off + h.i * h.sz + h.c + ts.length)).toArray) := by
      simp only [execOp, ho, hpv]
      simp only [Sem.run_bind, hst]
      rfl
    cases hany : ts.any T.isOwn with
    | true =>
      obtain ⟨f1, f2⟩ := hfin (fun r' j => if r' = r ∧ j = c then true else (σ.upds us).dirty r' j) (fun r' j hd => by
        by_cases e : r' = r ∧ j = c
        · simp [e] at hd
        · simpa [e] using hd) (fun _ => by simp) _ rfl
      refine ⟨_, _, hex, ?_, tk.move.trans f2, ?_⟩
      · simp only [if_true]
        rw [upds_append, upds_append, upds_cons]
        show Core E (((σ.upds us).upd (.set r c (putCells tt h q ts))).upds (dirtP r c)) _ _ _
        rw [dirt_set hpl1]
        exact f1
      · simp only [if_true]
        rw [upds_append, upds_append, upds_cons]
        show (((σ.upds us).upd (.set r c (putCells tt h q ts))).upds (dirtP r c)).isnew = _
        rw [dirt_set hpl1]
        show (Sg.setP _ r c _).isnew = _
        rw [Sg.setP_isnew]
        exact tk.isnew
    | false =>
      obtain ⟨f1, f2⟩ := hfin (σ.upds us).dirty (fun r' j hd => hd) (fun e => by rw [hany] at e; cases e) _ rfl
      refine ⟨_, _, hex, ?_, tk.move.trans f2, ?_⟩
      · simp only [Bool.false_eq_true, if_false, List.append_nil]
        rw [upds_append]
        exact f1
      · simp only [Bool.false_eq_true, if_false, List.append_nil]
        rw [upds_append]
        show (Sg.setP _ r c _).isnew = _
        rw [Sg.setP_isnew]
        exact tk.isnew
end
end Vx

namespace Vx
open Go Classical
set_option linter.unusedSimpArgs false
set_option linter.unusedVariables false

/-! ## Strings, conversions, parts, closures -/
theorem intT_un {P : Program} {t : TypeId} {k : IntKind} (h : intT P t = some k) : P.underlying t = some (.int k) := by
  unfold intT tinfo at h
  split at h
  · rename_i e
    split at e
    · rename_i i d h1 h2
      cases d with
      | int k' => simp at e; obtain ⟨rfl, _⟩ := e; cases h; exact h2
      | _ => simp at e
    · cases e
  · cases h
theorem tinfo_un {P : Program} {t : TypeId} {i : TI} (h : tinfo P t = some i) : ∃ d, P.underlying t = some d := by
  obtain ⟨inf, d, h1, h2, _⟩ := tinfo_some h
  exact ⟨d, h2⟩
theorem optT_ok {σ : Sg} {x : Option Operand} {f : Option T → Rd Eff} (h : ((optT x f).run σ).ok) : ∃ t, (optT x f).run σ = (f t).run σ ∧
    ((x = none ∧ t = none) ∨ ∃ y u, x = some y ∧ t = some u ∧ ∀ E a w g, Core E σ (Act.tmps a) w g → LIM ≤ g.lim → okOpd y = true → ∃ r, Rep w g ⟨r, 0, []⟩ u (a.eval y)) := by
  cases x with
  | none => exact ⟨none, rfl, .inl ⟨rfl, rfl⟩⟩
  | some x =>
    simp only [optT] at h ⊢
    obtain ⟨t, e, h2⟩ := rdT_ok h
    exact ⟨some t, e, .inr ⟨x, t, rfl, rfl, h2⟩⟩
/-- What a bound is. -/
def BoundIs (d : Nat) (v : Option Value) (n : Int) : Prop := (v = none ∧ n = d) ∨ ∃ k, v = some (.int k n)
theorem boundT_ok {σ : Sg} {x : Option Operand} {t : Option T} {d : Nat} {n : Int} (hb : boundT d t = some n)
    (h : (x = none ∧ t = none) ∨ ∃ y u, x = some y ∧ t = some u ∧ ∀ E a w g, Core E σ (Act.tmps a) w g → LIM ≤ g.lim → okOpd y = true → ∃ r, Rep w g ⟨r, 0, []⟩ u (a.eval y)) :
    ∀ E a w g, Core E σ (Act.tmps a) w g → LIM ≤ g.lim → (∀ y, x = some y → okOpd y = true) → BoundIs d (x.map a.eval) n := by
  intro E a w g hc hl ho
  rcases h with ⟨rfl, rfl⟩ | ⟨y, u, rfl, rfl, h⟩
  · simp only [boundT, Option.some.injEq] at hb
    exact .inl ⟨rfl, hb.symm⟩
  · obtain ⟨r, hr⟩ := h E a w g hc hl (ho y rfl)
    cases u with
    | int k m =>
      simp only [boundT, Option.some.injEq] at hb
      subst hb
      cases hr; rename_i hr
      right
      refine ⟨k, ?_⟩
      simp only [Option.map_some]
      generalize a.eval y = v at hr
      cases hr; rfl
    | _ => cases hb
theorem run_sliceBounds {P : Program} {w : World} {b : Bool} {len cap : Nat} {lo hi : Option Value} {l h : Int} (hlo : BoundIs 0 lo l) (hhi : BoundIs len hi h) (h0 : 0 ≤ l) (h1 : l ≤ h) (h2 : h ≤ len) (h3 : len ≤ cap) :
    (Instr.sliceBounds b len cap lo hi none).run P w = .ok (l.toNat, h.toNat, cap) w := by
  have e1 : ∀ (k : IntKind) (n : Int) (y : Nat) (c : BoundsCode), 0 ≤ n → n ≤ y → (Instr.sliceBound (.int k n) y c).run P w = .ok n.toNat w := by
    intro k n y c p q
    simp [Instr.sliceBound, asIntOf, p, q]
  have hh : (h.toNat : Int) = h := by omega
  rcases hlo with ⟨rfl, rfl⟩ | ⟨k, rfl⟩
  · rcases hhi with ⟨rfl, rfl⟩ | ⟨k', rfl⟩
    · simp [Instr.sliceBounds]
    · simp [Instr.sliceBounds, e1 k' h cap _ (by omega) (by omega)]
  · rcases hhi with ⟨rfl, rfl⟩ | ⟨k', rfl⟩
    · simp [Instr.sliceBounds, e1 k l len _ h0 (by omega)]
    · simp [Instr.sliceBounds, e1 k' h cap _ (by omega) (by omega), e1 k l h.toNat _ h0 (by omega)]

section
variable {E : Env} {N : Nat} {o : Oper} {σ : Sg}
theorem ok_index (hN : okOper N o = true) {t : TypeId} {x ix : Operand} (ho : o.op = .index t x ix) (h : ((astep E.P o).run σ).ok) : OpOK E N o σ ((astep E.P o).run σ).upd := by
  have hopx : okOpd x = true := okOper_opd hN (by rw [ho]; simp [Op.operands])
  have hopi : okOpd ix = true := okOper_opd hN (by rw [ho]; simp [Op.operands])
  simp only [astep, ho] at h ⊢
  by_cases hs : isStrT E.P t = true
  · rw [if_pos hs] at h ⊢
    obtain ⟨a, e1, r1⟩ := rdT_ok h
    rw [e1] at h ⊢
    obtain ⟨b, e2, r2⟩ := rdT_ok h
    rw [e2] at h ⊢
    cases a with
    | str s =>
      cases b with
      | int k n =>
        simp only at h ⊢
        cases hv : byteAt s n with
        | none => rw [hv] at h; exact h.elim
        | some v =>
          rw [hv] at h
          simp only at h ⊢
          refine OpOK.pure hN h rfl fun ac w g hc hl => ?_
          obtain ⟨ra, ha⟩ := r1 E ac w g hc hl hopx
          obtain ⟨rb, hb⟩ := r2 E ac w g hc hl hopi
          cases ha; rename_i ha
          cases hb; rename_i hb
          refine ⟨.int .u8 v, ?_, fun r => .c (.t (.fro .int)), by simp [SV.roots, C.roots]⟩
          generalize hx : ac.eval x = vx at ha
          generalize hy : ac.eval ix = vy at hb
          cases ha; cases hb
          have hu : (underlying t).run E.P w = .ok .string w := by simp [underlying, isStrT_un hs]
          unfold byteAt at hv
          split at hv
          · rename_i h0
            simp only [Option.map_eq_some_iff] at hv
            obtain ⟨b, hb, rfl⟩ := hv
            simp only [execOp, ho, hx, hy]
            simp [Instr.index, asIntOf, hu, h0, hb]
          · cases hv
      | _ => exact h.elim
    | _ => exact h.elim
  · rw [if_neg hs] at h; exact h.elim

theorem isBytesT_un {P : Program} {t : TypeId} (h : isBytesT P t = true) : ∃ e, P.underlying t = some (.slice e) ∧ P.underlying e = some (.int .u8) := by
  unfold isBytesT at h
  split at h
  · rename_i i e mp hi
    split at h
    · rename_i hk
      refine ⟨e, tinfo_elem hi rfl, intT_un (k := .u8) ?_⟩
      simp [intT, hk]
    · cases h
  · cases h
theorem mapM_byte : ∀ {xs : List (List T)} {ns : List Int}, xs.mapM rowByte = some ns → ns.length = xs.length ∧ ∀ (i : Nat) (n : Int), ns[i]? = some n → xs[i]? = some [T.int .u8 n]
  | [], ns, h => by
    simp at h
    subst h
    exact ⟨rfl, by simp⟩
  | x :: xs, ns, h => by
    rw [List.mapM_cons] at h
    simp only [Option.bind_eq_bind, Option.bind_eq_some_iff, Option.pure_def, Option.some.injEq] at h
    obtain ⟨m, h1, l, h2, rfl⟩ := h
    obtain ⟨i1, i2⟩ := mapM_byte h2
    refine ⟨by simp [i1], fun i n hi => ?_⟩
    cases i with
    | zero =>
      simp only [List.getElem?_cons_zero, Option.some.injEq] at hi ⊢
      subst hi
      unfold rowByte at h1
      split at h1
      · cases h1; rfl
      · cases h1
    | succ i => simpa using i2 i n (by simpa using hi)
theorem fold_size : ∀ (ns : List Int) (s : ByteArray), (ns.foldl (fun r n => r.push (UInt8.ofNat n.toNat)) s).size = s.size + ns.length
  | [], s => by simp
  | n :: ns, s => by
    rw [List.foldl_cons, fold_size ns, ByteArray.size_push]
    simp; omega
theorem run_bytesX {P : Program} {w : World} {g : Gh} {a : CA} {ow : Bool} {xs : List (List T)} {v : Value} {b : ByteArray} (h : Rep w g a (.sl ow 1 xs) v) (hb : bytesX xs = some b) :
    ∃ p n c, v = .slice p n c ∧ (Conv.bytesToString v).run P w = .ok (.string b) w ∧ b.size ≤ g.lim := by
  unfold bytesX at hb
  simp only [Option.map_eq_some_iff] at hb
  obtain ⟨ns, hns, rfl⟩ := hb
  obtain ⟨hl, hg⟩ := mapM_byte hns
  have key : ∀ {bk off cap : Nat} {cs : Array Value} {el : TypeId} {fr : Nat × Nat} (vs : Nat → Nat → Value), w.heap[bk]? = some (.cells cs el fr) → xs.length ≤ g.lim → (∀ i c, i < xs.length → c < 1 → cs[off + i * 1 + c]? = some (vs i c)) →
      (∀ (i : Nat) (row : List T) (c : Nat) (t : T), xs[i]? = some row → row[c]? = some t → ∀ n, t = .int .u8 n → vs i c = .int .u8 n) →
      (Conv.bytesToString (.slice (some ⟨bk, off, none⟩) xs.length cap)).run P w = .ok (.string (ns.foldl (fun r n => r.push (UInt8.ofNat n.toNat)) ByteArray.empty)) w ∧ (ns.foldl (fun r n => r.push (UInt8.ofNat n.toNat)) ByteArray.empty).size ≤ g.lim := by
    intro bk off cap cs el fr vs hh hlim hcell hrec
    refine ⟨run_bytesToString w _ _ _ ns ?_, by rw [fold_size, hl]; simpa using hlim⟩
    have := run_loadCells_list (P := P) w ⟨bk, off, none⟩ (ns.map (Value.int .u8)) (fun j u hj => ?_)
    · rw [List.length_map, hl] at this
      exact this
    · simp only [List.getElem?_map, Option.map_eq_some_iff] at hj
      obtain ⟨n, hj, rfl⟩ := hj
      have hlt : j < xs.length := by rw [← hl]; exact lt_of_getElem? hj
      rw [addr_add, cell_of hh]
      have := hcell j 0 hlt (by omega)
      rw [Nat.mul_one, Nat.add_zero] at this
      rw [this, hrec j _ 0 _ (hg j n hj) rfl n rfl]
  have empty : xs = [] → ns = [] := fun e => by subst e; exact List.eq_nil_of_length_eq_zero hl
  cases h with
  | fro h =>
    cases h with
    | @fnil _ p c =>
      have := empty rfl
      subst this
      refine ⟨_, _, _, rfl, ?_, by simp⟩
      cases p with
      | none => simp [Conv.bytesToString]
      | some p => exact run_bytesToString w p 0 c [] (by simpa using run_loadCells_list (P := P) w p [] (by simp))
    | fz vs hh ho hcap hlim hrow hcell hrec =>
      exact ⟨_, _, _, rfl, key vs hh hlim hcell fun i row c t h1 h2 n e => by
        have := hrec i row c t h1 h2
        subst e
        generalize vs i c = u at this
        cases this; rfl⟩
  | onil hd =>
    have := empty rfl
    subst this
    exact ⟨_, _, _, rfl, by simp [Conv.bytesToString], by simp⟩
  | own vs hd hh ho hsize hcap hlim hrow hcell hrec =>
    exact ⟨_, _, _, rfl, key vs hh hlim hcell fun i row c t h1 h2 n e => by
      have := hrec i row c t h1 h2
      subst e
      generalize vs i c = u at this
      cases this with | fro this => cases this; rfl⟩
theorem ok_convert (hN : okOper N o = true) {s d : TypeId} {x : Operand} (ho : o.op = .convert s d x) (h : ((astep E.P o).run σ).ok) : OpOK E N o σ ((astep E.P o).run σ).upd := by
  have hopx : okOpd x = true := okOper_opd hN (by rw [ho]; simp [Op.operands])
  simp only [astep, ho] at h ⊢
  cases hk : intT E.P d with
  | some k =>
    rw [hk] at h
    simp only at h ⊢
    obtain ⟨a, e1, r1⟩ := rdT_ok h
    rw [e1] at h ⊢
    cases a with
    | int k' n =>
      simp only at h ⊢
      obtain ⟨hok, _⟩ := put_ok h
      refine OpOK.pure hN h rfl fun ac w g hc hl => ?_
      obtain ⟨ra, ha⟩ := r1 E ac w g hc hl hopx
      cases ha; rename_i ha
      refine ⟨.int k (k.wrap n), ?_, fun r => .c (.t (.fro .int)), by simp [SV.roots, C.roots]⟩
      generalize hx : ac.eval x = vx at ha
      cases ha
      cases hi : tinfo E.P s with
      | none => rw [hi] at hok; cases hok
      | some i =>
        obtain ⟨ds, hds⟩ := tinfo_un hi
        have hu1 : (underlying s).run E.P w = .ok ds w := by simp [underlying, hds]
        have hu2 : (underlying d).run E.P w = .ok (.int k) w := by simp [underlying, intT_un hk]
        simp only [execOp, ho, hx]
        simp [convert, hu1, hu2, Conv.intToInt]
    | _ => exact h.elim
  | none =>
    rw [hk] at h
    simp only at h ⊢
    by_cases hs : isStrT E.P d = true
    · rw [if_pos hs] at h ⊢
      by_cases hbt : isBytesT E.P s = true
      · rw [if_pos hbt] at h ⊢
        obtain ⟨e, hu1, hu2⟩ := isBytesT_un hbt
        obtain ⟨sv, e1, hr, e2⟩ := rdS_ok h
        rw [e1] at h ⊢
        have fin : ∀ (b : ByteArray) (ok : Prop), ((put o (.c (.t (.str b))) [] ok).run σ).ok → (∀ (ac : Act) w g, Core E σ ac.tmps w g → LIM ≤ g.lim → ∃ a' ow xs, Rep w g a' (.sl ow 1 xs) (ac.eval x) ∧ bytesX xs = some b) → OpOK E N o σ ((put o (.c (.t (.str b))) [] ok).run σ).upd := by
          intro b ok h hx
          refine OpOK.pure hN h rfl fun ac w g hc hl => ?_
          obtain ⟨a', ow, xs, hrep, hb⟩ := hx ac w g hc hl
          obtain ⟨p, n, c, hv, hrun, hlim⟩ := run_bytesX (P := E.P) hrep hb
          refine ⟨.string b, ?_, fun r => .c (.t (.fro (.str hlim))), by simp [SV.roots, C.roots]⟩
          have := run_convert_bytes_string (P := E.P) w s d e p n c hu1 hu2 (isStrT_un hs)
          rw [hv] at hrun
          simp only [execOp, ho, hv]
          rw [Sem.run_bind, this, hrun]
          rfl
        rcases sv with (_ | _ | _ | _ | _ | _) | _ | _
        case c.t tt =>
          cases tt with
          | sl ow sz xs =>
            cases ow with
            | true => exact h.elim
            | false =>
              by_cases hz : sz = 1
              · subst hz
                simp only at h ⊢
                cases hb : bytesX xs with
                | none => rw [hb] at h; exact h.elim
                | some b =>
                  rw [hb] at h
                  simp only at h ⊢
                  refine fin b _ h fun ac w g hc hl => ?_
                  have hx := e2 E ac w g hc hl hopx .ret
                  cases hx with | c hx => cases hx with | t hx => exact ⟨_, _, _, hx, hb⟩
              · exfalso
                split at h
                · rename_i heq; cases heq; exact hz rfl
                · rename_i heq; cases heq
                · exact h.elim
          | _ => exact h.elim
        case c.ref aa =>
          simp only at h ⊢
          obtain ⟨tt, y, e3, hat, hp⟩ := deref_is h
          rw [e3] at h ⊢
          cases y with
          | sl ow sz xs =>
            cases ow with
            | false => exact h.elim
            | true =>
              by_cases hz : sz = 1
              · subst hz
                simp only at h ⊢
                cases hb : bytesX xs with
                | none => rw [hb] at h; exact h.elim
                | some b =>
                  rw [hb] at h
                  simp only at h ⊢
                  refine fin b _ h fun ac w g hc hl => ?_
                  have hx := e2 E ac w g hc hl hopx .ret
                  obtain ⟨u, hu⟩ := hc.deref hat hp.slot hp.obj hp.nret
                  cases hx with | c hx => cases hx with | ref hx _ =>
                  rw [hx hp.dirty, ← hu.own_hd]
                  exact ⟨_, _, _, hu, hb⟩
              · exfalso
                split at h
                · rename_i heq; cases heq; exact hz rfl
                · exact h.elim
          | _ => exact h.elim
        all_goals exact h.elim
      rw [if_neg hbt] at h ⊢
      obtain ⟨a, e1, r1⟩ := rdT_ok h
      rw [e1] at h ⊢
      cases a with
      | str u =>
        simp only at h ⊢
        obtain ⟨hok, _⟩ := put_ok h
        refine OpOK.pure hN h rfl fun ac w g hc hl => ?_
        obtain ⟨ra, ha⟩ := r1 E ac w g hc hl hopx
        cases ha; rename_i ha
        refine ⟨.string u, ?_, fun r => .c (.t ?_), by simp [SV.roots, C.roots]⟩
        · generalize hx : ac.eval x = vx at ha
          cases ha
          have hu1 : (underlying s).run E.P w = .ok .string w := by simp [underlying, isStrT_un hok]
          have hu2 : (underlying d).run E.P w = .ok .string w := by simp [underlying, isStrT_un hs]
          simp only [execOp, ho, hx]
          simp [convert, hu1, hu2]
        · generalize ac.eval x = vx at ha
          cases ha; rename_i hsz
          exact .fro (.str hsz)
      | _ => exact h.elim
    · rw [if_neg hs] at h; exact h.elim

theorem ok_sliceT (hN : okOper N o = true) {t : TypeId} {x : Operand} {lo hi : Option Operand} (ho : o.op = .slice t x lo hi none) (h : ((stepSliceT E.P o t x lo hi).run σ).ok) : OpOK E N o σ ((stepSliceT E.P o t x lo hi).run σ).upd := by
  have hopx : okOpd x = true := okOper_opd hN (by rw [ho]; simp [Op.operands])
  have hopl : ∀ y, lo = some y → okOpd y = true := fun y hy => okOper_opd hN (by rw [ho]; subst hy; simp [Op.operands])
  have hoph : ∀ y, hi = some y → okOpd y = true := fun y hy => okOper_opd hN (by rw [ho]; subst hy; simp [Op.operands])
  unfold stepSliceT at h ⊢
  obtain ⟨a, e1, r1⟩ := rdT_ok h
  rw [e1] at h ⊢
  obtain ⟨tl, e2, r2⟩ := optT_ok h
  rw [e2] at h ⊢
  obtain ⟨th, e3, r3⟩ := optT_ok h
  rw [e3] at h ⊢
  cases a with
  | nil =>
    simp only at h ⊢
    cases hi0 : tinfo E.P t with
    | none => rw [hi0] at h; exact h.elim
    | some i =>
      obtain ⟨kd, agg, size, bytes, zero, fld, el⟩ := i
      cases el with
      | none => rw [hi0] at h; exact h.elim
      | some e =>
        rw [hi0] at h
        simp only at h ⊢
        cases hei : tinfo E.P e with
        | none => rw [hei] at h; exact h.elim
        | some ei =>
          rw [hei] at h
          simp only at h ⊢
          cases hl0 : boundT 0 tl with
          | none => rw [hl0] at h; exact h.elim
          | some l =>
            cases hh0 : boundT 0 th with
            | none => rw [hl0, hh0] at h; exact h.elim
            | some hh =>
              rw [hl0, hh0] at h
              simp only at h ⊢
              by_cases hz : l = 0 ∧ hh = 0
              · rw [if_pos hz] at h ⊢
                obtain ⟨rfl, rfl⟩ := hz
                refine OpOK.pure hN h rfl fun ac w g hc hl => ?_
                obtain ⟨ra, ha⟩ := r1 E ac w g hc hl hopx
                have b1 := boundT_ok hl0 r2 E ac w g hc hl hopl
                have b2 := boundT_ok hh0 r3 E ac w g hc hl hoph
                cases ha; rename_i ha
                generalize hx : ac.eval x = vx at ha
                cases ha
                have hu : (underlying t).run E.P w = .ok (.slice e) w := by simp [underlying, tinfo_elem hi0 rfl]
                refine ⟨.slice none 0 0, ?_, fun r => .c (.t (.fro .nil)), by simp [SV.roots, C.roots]⟩
                simp only [execOp, ho, hx]
                simp [Instr.sliceAt, Instr.slice, hu, run_sizeOf hei, run_sliceBounds b1 b2 (Int.le_refl _) (Int.le_refl _) (Int.le_refl _) (Nat.le_refl _)]
              · rw [if_neg hz] at h; exact h.elim
  | str s =>
    simp only at h ⊢
    cases hl0 : boundT 0 tl with
    | none => rw [hl0] at h; exact h.elim
    | some l =>
      cases hh0 : boundT s.size th with
      | none => rw [hl0, hh0] at h; exact h.elim
      | some hh =>
        rw [hl0, hh0] at h
        simp only at h ⊢
        cases hcut : cutStr s l hh with
        | none => rw [hcut] at h; exact h.elim
        | some u =>
          rw [hcut] at h
          simp only at h ⊢
          obtain ⟨hok, _⟩ := put_ok h
          refine OpOK.pure hN h rfl fun ac w g hc hl => ?_
          obtain ⟨ra, ha⟩ := r1 E ac w g hc hl hopx
          have b1 := boundT_ok hl0 r2 E ac w g hc hl hopl
          have b2 := boundT_ok hh0 r3 E ac w g hc hl hoph
          cases ha; rename_i ha
          generalize hx : ac.eval x = vx at ha
          cases ha; rename_i hsz
          unfold cutStr at hcut
          split at hcut
          · rename_i hc3
            cases hcut
            refine ⟨.string (s.extract l.toNat hh.toNat), ?_, fun r => .c (.t (.fro (.str ?_))), by simp [SV.roots, C.roots]⟩
            · have hu : (underlying t).run E.P w = .ok .string w := by simp [underlying, isStrT_un hok]
              simp only [execOp, ho, hx]
              simp [Instr.sliceAt, Instr.slice, hu, run_sliceBounds b1 b2 hc3.1 hc3.2.1 hc3.2.2 (Nat.le_refl _)]
            · rw [ByteArray.size_extract]; omega
          · cases hcut
  | sl ow sz xs =>
    cases ow with
    | true => exact h.elim
    | false =>
      simp only at h ⊢
      cases hi0 : tinfo E.P t with
      | none => rw [hi0] at h; exact h.elim
      | some i =>
        obtain ⟨kd, agg, size, bytes, zero, fld, el⟩ := i
        cases el with
        | none => rw [hi0] at h; exact h.elim
        | some e =>
          rw [hi0] at h
          simp only at h ⊢
          cases hei : tinfo E.P e with
          | none => rw [hei] at h; exact h.elim
          | some ei =>
            rw [hei] at h
            simp only at h ⊢
            cases hl0 : boundT 0 tl with
            | none => rw [hl0] at h; exact h.elim
            | some l =>
              cases hh0 : boundT xs.length th with
              | none => rw [hl0, hh0] at h; exact h.elim
              | some hh =>
                rw [hl0, hh0] at h
                simp only at h ⊢
                cases hcut : cutRows xs l hh with
                | none => rw [hcut] at h; exact h.elim
                | some ys =>
                  rw [hcut] at h
                  simp only at h ⊢
                  obtain ⟨hok, _⟩ := put_ok h
                  refine OpOK.pure hN h rfl fun ac w g hc hl => ?_
                  obtain ⟨ra, ha⟩ := r1 E ac w g hc hl hopx
                  have b1 := boundT_ok hl0 r2 E ac w g hc hl hopl
                  have b2 := boundT_ok hh0 r3 E ac w g hc hl hoph
                  have ha := ha.isFro (by intro _ _ e; cases e)
                  generalize hx : ac.eval x = vx at ha
                  unfold cutRows at hcut
                  split at hcut
                  · rename_i hc3
                    cases hcut
                    obtain ⟨c1, c2, c3⟩ := hc3
                    have hu : (underlying t).run E.P w = .ok (.slice e) w := by simp [underlying, tinfo_elem hi0 rfl]
                    cases ha with
                    | @fnil _ p cp =>
                      have hz : l = 0 ∧ hh = 0 := by simp at c3; omega
                      obtain ⟨rfl, rfl⟩ := hz
                      refine ⟨.slice (if cp = 0 then p else p.map (·.add 0)) 0 cp, ?_, fun r => .c (.t (.fro (by simpa using FRep.fnil))), by simp [SV.roots, C.roots]⟩
                      have hb := run_sliceBounds (P := E.P) (w := w) (b := true) (cap := cp) b1 b2 c1 c2 c3 (Nat.zero_le _)
                      simp only [List.length_nil, Int.toNat_zero] at hb
                      simp only [execOp, ho, hx]
                      simp [Instr.sliceAt, Instr.slice, hu, run_sizeOf hei, hb]
                    | fz vs hhp ho' hcap hlim hrw hcell hrec =>
                      rename_i b off cap cs el' fr
                      have hrun : (Instr.slice t (.slice (some ⟨b, off, none⟩) xs.length cap) (lo.map ac.eval) (hi.map ac.eval) none).run E.P w = .ok (.slice (if cap = l.toNat then some ⟨b, off, none⟩ else some ⟨b, off + l.toNat * ei.size, none⟩) (hh.toNat - l.toNat) (cap - l.toNat)) w := by
                        simp [Instr.slice, hu, run_sizeOf hei, run_sliceBounds b1 b2 c1 c2 c3 hcap, addr_add]
                      refine ⟨.slice (if cap = l.toNat then some ⟨b, off, none⟩ else some ⟨b, off + l.toNat * ei.size, none⟩) (hh.toNat - l.toNat) (cap - l.toNat), by simp only [execOp, ho, hx]; simp [Instr.sliceAt, hu, hrun], fun r => .c (.t (.fro ?_)), by simp [SV.roots, C.roots]⟩
                      have hylen : ((xs.take hh.toNat).drop l.toNat).length = hh.toNat - l.toNat := by simp; omega
                      by_cases h0 : hh.toNat - l.toNat = 0
                      · have : (xs.take hh.toNat).drop l.toNat = [] := List.length_eq_zero_iff.1 (by omega)
                        rw [this, h0]
                        exact .fnil
                      · rw [if_neg (by omega)]
                        have hget : ∀ i, i < hh.toNat - l.toNat → ((xs.take hh.toNat).drop l.toNat)[i]? = xs[l.toNat + i]? := fun i hi => by
                          rw [List.getElem?_drop, List.getElem?_take, if_pos (by omega)]
                        have := FRep.fz (w := w) (g := g) (b := b) (off := off + l.toNat * ei.size) (cap := cap - l.toNat) (sz := sz) (xs := (xs.take hh.toNat).drop l.toNat) (cs := cs) (el := el') (fr := fr) (fun i c => vs (l.toNat + i) c) hhp ho' (by omega) (by omega)
                          (fun row hr => hrw row (List.mem_of_mem_take (List.mem_of_mem_drop hr)))
                          (fun i c hi hc' => by
                            have := hcell (l.toNat + i) c (by omega) hc'
                            rw [← this]; congr 1
                            rw [hok, Nat.add_mul]; omega)
                          (fun i row c u hr hu' => by
                            have hil : i < hh.toNat - l.toNat := by rw [← hylen]; exact lt_of_getElem? hr
                            rw [hget i hil] at hr
                            exact hrec _ row c u hr hu')
                        rw [hylen] at this
                        exact this
                  · cases hcut
  | _ => exact h.elim

theorem capsT_ok {σ : Sg} : ∀ {xs : List Operand} {f : List C → Rd Eff}, ((capsT xs f).run σ).ok → ∃ l, (capsT xs f).run σ = (f l).run σ ∧ l.length = xs.length ∧ (∀ x ∈ l, x.isOwn = false) ∧ (∀ x ∈ l, ∀ r ∈ x.roots, ∀ E tmps w g, Core E σ tmps w g → σ.ex r) ∧
    ∀ E a w g, Core E σ (Act.tmps a) w g → LIM ≤ g.lim → (∀ x ∈ xs, okOpd x = true) → ∀ (j : Nat) (y : C) (b : CA), l[j]? = some y → CRep w g σ.dirty b y (a.eval (xs.getD j (.const undef)))
  | [], f, h => ⟨[], rfl, rfl, by simp, by simp, fun _ _ _ _ _ _ _ j y b hj => by simp at hj⟩
  | x :: xs, f, h => by
    simp only [capsT] at h ⊢
    obtain ⟨sv, e, hr, e2, e3, _⟩ := rdS_ok2 h
    rw [e] at h ⊢
    cases sv with
    | c y =>
      simp only at h ⊢
      by_cases hone : y.one = true
      · rw [if_pos hone] at h ⊢
        obtain ⟨l, e4, l1, l2, l3, l4⟩ := capsT_ok h
        have hy := e3 _ rfl y (by simp)
        refine ⟨y :: l, e4, by simp [l1], fun z hz => ?_, fun z hz => ?_, fun E a w g hc hl ho j z b hj => ?_⟩
        · rcases List.mem_cons.1 hz with e | e
          · subst e; exact hy
          · exact l2 z e
        · rcases List.mem_cons.1 hz with e | e
          · subst e; exact hr
          · exact l3 z e
        · cases j with
          | zero =>
            simp at hj
            subst hj
            have := e2 E a w g hc hl (ho x (by simp)) .ret
            cases this with | c this => exact this.repos hy
          | succ j => exact l4 E a w g hc hl (fun x hx => ho x (by simp [hx])) j z b (by simpa using hj)
      · rw [if_neg hone] at h; exact h.elim
    | _ => exact h.elim
theorem ok_makeFunc (hN : okOper N o = true) {fn : Fn} {first caps : Array Operand} (ho : o.op = .makeFunc fn first caps) (h : ((astep E.P o).run σ).ok) : OpOK E N o σ ((astep E.P o).run σ).upd := by
  cases fn with
  | func f =>
    simp only [astep, ho] at h ⊢
    cases hf : first.isEmpty with
    | false => rw [hf] at h; exact h.elim
    | true =>
      rw [hf] at h
      simp only [if_true] at h ⊢
      obtain ⟨l, e, l1, l2, l3, l4⟩ := capsT_ok h
      rw [e] at h ⊢
      have hopd : ∀ x ∈ caps.toList, okOpd x = true := fun x hx => okOper_opd hN (by
        rw [ho]
        simp only [Op.operands]
        simp at hx
        simp [hx])
      refine OpOK.pure hN h rfl fun ac w g hc hl => ?_
      have hfe : first = #[] := by simpa using hf
      refine ⟨.func (.func f) #[] ((List.range l.length).map fun j => ac.eval (caps.toList.getD j (.const undef))).toArray, ?_, fun r => .c (.clo _ l2 fun j x hj => l4 E ac w g hc hl hopd j x _ hj), fun r hr => ?_⟩
      · simp only [execOp, ho, hfe]
        have : ((List.range l.length).map fun j => ac.eval (caps.toList.getD j (.const undef))).toArray = caps.map ac.eval := by
          apply Array.ext_getElem?
          intro i
          by_cases hi : i < caps.size
          · simp [l1, hi]
          · simp [l1, hi]
        rw [this]
        simp [Instr.makeFunc]
      · simp only [SV.roots, C.roots] at hr
        obtain ⟨x, hx, hr⟩ := C.mem_rootsL.1 hr
        exact l3 x hx r hr _ _ _ _ hc
  | _ => simp only [astep, ho] at h; exact h.elim
end
end Vx

namespace Vx
open Go Classical
set_option linter.unusedSimpArgs false
set_option linter.unusedVariables false

/-! ## append -/
/-- The memory and the ghosts of what only `.ret` owns turn; a new root gets its headers. -/
theorem Core.reown {E : Env} {σ : Sg} {tmps : Array Value} {w w' : World} {g : Gh} (hc : Core E σ tmps w g) {d : Nat} (hn : σ.isnew d = false) {ow' : Nat → Tag} {hd' : CA → Value} (hsz : w.heap.size ≤ w'.heap.size)
    (h1 : ∀ b, b < w.heap.size → (∀ a, g.ow b = .own a → a.root ≠ .ret) → ow' b = g.ow b ∧ w'.heap[b]? = w.heap[b]?)
    (h2 : ∀ a : CA, a.root ≠ .new d → hd' a = g.hd a) (henv : w'.os = w.os ∧ w'.tape = w.tape ∧ w'.output = w.output) :
    Core E σ tmps w' { g with ow := ow', hd := hd' } ∧ Move w g w' { g with ow := ow', hd := hd' } := by
  have hnew : ∀ r, σ.ex r → r ≠ .new d := by rintro r h rfl; simp [Sg.ex, hn] at h
  have hret : ∀ r, σ.ex r → r ≠ .ret := by rintro r h rfl; exact h
  have hother : ∀ b, b < w.heap.size → (∀ a, g.ow b ≠ .own a) → ow' b = g.ow b ∧ w'.heap[b]? = w.heap[b]? := fun b hb h => h1 b hb fun a e => absurd e (h a)
  have hst : ∀ r c, σ.ex r → Still w w' g { g with ow := ow', hd := hd' } r c := fun r c hr => ⟨fun b p hb ho => by
      obtain ⟨e1, e2⟩ := h1 b hb fun a e => by rw [ho] at e; cases e; exact hret r hr
      exact ⟨e1.trans ho, e2⟩, fun p => h2 _ (hnew r hr)⟩
  refine ⟨Core.step hc ⟨Nat.le_refl _, fun b hb ho => ?_, fun r c hr hd => ⟨hd, fun p => h2 _ (hnew r hr)⟩, fun _ _ => rfl⟩ (fun n => .inl ⟨rfl, rfl, rfl, fun c => hst _ c (σ.rt_ex n)⟩)
    (fun k kd h => .inl ⟨h, fun c => ⟨rfl, hst _ c (.inr (.inl (by rw [h]; simp)))⟩, fun hb ho => ?_⟩) (fun k c => .inl rfl) (fun k es h => .inl ⟨h, fun hb ho => ?_⟩) (fun _ h => h) (fun b hb => ?_) hsz,
    ⟨hsz, rfl, fun b hb ho => ?_, fun _ _ => rfl, fun b k hb _ ho => ?_, henv, fun k c p _ _ => h2 _ (by simp)⟩⟩
  · obtain ⟨e1, e2⟩ := hother b hb fun a e => by rw [ho] at e; cases e
    exact ⟨e1.trans ho, e2⟩
  · obtain ⟨e1, e2⟩ := hother _ hb fun a e => by rw [ho] at e; cases e
    exact ⟨e1.trans ho, e2⟩
  · obtain ⟨e1, e2⟩ := hother _ hb fun a e => by rw [ho] at e; cases e
    exact ⟨e1.trans ho, e2⟩
  · exact hother b (Nat.lt_of_lt_of_le hb hc.size) fun a e => by rw [(hc.glob b hb).1] at e; cases e
  · exact hother b hb fun a e => by rcases ho with ho | ho <;> (rw [ho] at e; cases e)
  · obtain ⟨e1, e2⟩ := hother b hb fun a e => by rw [ho] at e; cases e
    exact ⟨e1.trans ho, fun cs el fr hh => ⟨cs, e2.trans hh, rfl, fun _ _ => rfl⟩⟩

/-- The first hop's index, shifted. -/
def shiftP (n : Nat) : List Hop → List Hop
  | [] => []
  | [h] => [{ h with i := h.i + n }]
  | h :: p => h :: shiftP n p
theorem shiftP_cons (n : Nat) (h : Hop) {p : List Hop} (hp : p ≠ []) : shiftP n (h :: p) = h :: shiftP n p := by
  cases p with
  | nil => exact absurd rfl hp
  | cons _ _ => rfl
theorem shiftP_app (n : Nat) (s : List Hop) (h : Hop) : shiftP n (s ++ [h]) = s ++ [{ h with i := h.i + n }] := by
  induction s with
  | nil => rfl
  | cons x s ih => rw [List.cons_append, shiftP_cons n x (by simp), ih]; rfl
def unshiftP (n : Nat) : List Hop → List Hop
  | [] => []
  | [h] => [{ h with i := h.i - n }]
  | h :: p => h :: unshiftP n p
theorem unshiftP_app (n : Nat) (s : List Hop) (h : Hop) : unshiftP n (s ++ [h]) = s ++ [{ h with i := h.i - n }] := by
  induction s with
  | nil => rfl
  | cons x s ih =>
    have : unshiftP n (x :: (s ++ [h])) = x :: unshiftP n (s ++ [h]) := by cases s <;> rfl
    rw [List.cons_append, this, ih]; rfl
def lastI : List Hop → Nat
  | [] => 0
  | [h] => h.i
  | _ :: p => lastI p
theorem lastI_app (s : List Hop) (h : Hop) : lastI (s ++ [h]) = h.i := by
  induction s with
  | nil => rfl
  | cons x s ih =>
    have : lastI (x :: (s ++ [h])) = lastI (s ++ [h]) := by cases s <;> rfl
    rw [List.cons_append, this, ih]

/-- The ghosts behind an append: what `.ret` owned at 0 stands at the new root, what it owned below 1 behind that. -/
noncomputable def appOw (g : Gh) (d n : Nat) (extra : Nat → Option Tag) : Nat → Tag := fun b => match extra b with
  | some t => t
  | none => match g.ow b with
    | .own a => if a.root = .ret ∧ a.c = 0 then .own ⟨.new d, 0, a.path⟩ else if a.root = .ret ∧ a.c = 1 ∧ a.path ≠ [] then .own ⟨.new d, 0, shiftP n a.path⟩ else .own a
    | t => t
noncomputable def appHd (g : Gh) (d n : Nat) (hdr : Value) : CA → Value := fun a => if a.root = .new d then (if a.c = 0 then (match a.path with
    | [] => hdr
    | p => if lastI p < n then g.hd ⟨.ret, 0, p⟩ else g.hd ⟨.ret, 1, unshiftP n p⟩) else g.hd a) else g.hd a

section
variable {w w' : World} {g : Gh} {d n : Nat} {hdr : Value} {extra : Nat → Option Tag}
/-- A part of what stood at 0. -/
theorem app_left {i sz c : Nat} {t : T} {v : Value} (hi : i < n) (h : Rep w g ⟨.ret, 0, [⟨i, sz, c⟩]⟩ t v)
    (hm : ∀ b, b < w.heap.size → (∀ a, g.ow b = .own a → a ≠ ⟨.ret, 0, []⟩) → extra b = none ∧ w'.heap[b]? = w.heap[b]?) :
    Rep w' { g with ow := appOw g d n extra, hd := appHd g d n hdr } ⟨.new d, 0, [⟨i, sz, c⟩]⟩ t v := by
  have := Rep.map (w' := w') (g' := { g with ow := appOw g d n extra, hd := appHd g d n hdr }) (fun a => ⟨.new d, 0, a.path⟩) h (Nat.le_refl _) (fun _ _ _ => rfl) (fun b hb ho => ?_) (fun b a' hb ha ho => ?_) (fun a' ha => ?_)
  · exact this
  · obtain ⟨e1, e2⟩ := hm b hb fun a e => by rw [ho] at e; cases e
    exact ⟨by simp [appOw, e1, ho], e2⟩
  · obtain ⟨r1, r2, s, r3⟩ := ha
    obtain ⟨e1, e2⟩ := hm b hb fun a e => by
      rw [ho] at e
      cases e
      rintro rfl
      simp at r3
    refine ⟨?_, e2⟩
    simp only [appOw, e1, ho]
    rw [if_pos ⟨r1, r2⟩]
  · obtain ⟨r1, r2, s, r3⟩ := ha
    have hp : a'.path ≠ [] := by rw [r3]; simp
    have e3 : lastI a'.path = i := by rw [r3]; exact lastI_app s _
    have e4 : a' = ⟨.ret, 0, a'.path⟩ := by cases a'; simp_all
    simp only [appHd, if_true]
    cases hq : a'.path with
    | nil => exact absurd hq hp
    | cons x l =>
      try simp only
      rw [← hq, e3, if_pos hi]
      rw [← e4]
/-- A part of what stood at 1. -/
theorem app_right {i sz c : Nat} {t : T} {v : Value} (h : Rep w g ⟨.ret, 1, [⟨i, sz, c⟩]⟩ t v)
    (hm : ∀ b, b < w.heap.size → (∀ a, g.ow b = .own a → a ≠ ⟨.ret, 0, []⟩) → extra b = none ∧ w'.heap[b]? = w.heap[b]?) :
    Rep w' { g with ow := appOw g d n extra, hd := appHd g d n hdr } ⟨.new d, 0, [⟨i + n, sz, c⟩]⟩ t v := by
  have := Rep.map (w' := w') (g' := { g with ow := appOw g d n extra, hd := appHd g d n hdr }) (fun a => ⟨.new d, 0, shiftP n a.path⟩) h (Nat.le_refl _) (fun a' ha s => ?_) (fun b hb ho => ?_) (fun b a' hb ha ho => ?_) (fun a' ha => ?_)
  · exact this
  · obtain ⟨r1, r2, u, r3⟩ := ha
    simp only [CA.hop]
    rw [shiftP_cons n s (by rw [r3]; simp)]
  · obtain ⟨e1, e2⟩ := hm b hb fun a e => by rw [ho] at e; cases e
    exact ⟨by simp [appOw, e1, ho], e2⟩
  · obtain ⟨r1, r2, s, r3⟩ := ha
    obtain ⟨e1, e2⟩ := hm b hb fun a e => by
      rw [ho] at e
      cases e
      rintro rfl
      simp at r2
    refine ⟨?_, e2⟩
    simp only [appOw, e1, ho]
    have r2' : a'.c = 1 := r2
    rw [if_neg (by rw [r2']; simp), if_pos ⟨r1, r2', by rw [r3]; simp⟩]
  · obtain ⟨r1, r2, s, r3⟩ := ha
    have r2' : a'.c = 1 := r2
    have hsh : shiftP n a'.path = s ++ [⟨i + n, sz, c⟩] := by rw [r3]; exact shiftP_app n s _
    have e4 : a' = ⟨.ret, 1, a'.path⟩ := by
      have r1' : a'.root = .ret := r1
      cases a'; simp_all
    simp only [appHd, if_true]
    rw [hsh]
    have hl : lastI (s ++ [⟨i + n, sz, c⟩]) = i + n := lastI_app s _
    have hu : unshiftP n (s ++ [⟨i + n, sz, c⟩]) = a'.path := by rw [unshiftP_app, r3]; simp
    cases hq : s ++ [(⟨i + n, sz, c⟩ : Hop)] with
    | nil => simp at hq
    | cons x l =>
      try simp only
      rw [← hq, hl, if_neg (by omega), hu]
      rw [← e4]
end

/-- The cells of rows, one after the other. -/
def flatV (vs : Nat → Nat → Value) (n sz : Nat) : List Value := (List.range (n * sz)).map fun j => vs (j / sz) (j % sz)
theorem flatV_length (vs : Nat → Nat → Value) (n sz : Nat) : (flatV vs n sz).length = n * sz := by simp [flatV]
theorem flatV_get (vs : Nat → Nat → Value) {n sz i c : Nat} (hi : i < n) (hc : c < sz) : (flatV vs n sz)[i * sz + c]? = some (vs i c) := by
  simp only [flatV, List.getElem?_map]
  rw [List.getElem?_range (row_lt hi hc)]
  simp [div_row i sz c hc, mod_row i sz c hc]
theorem flatV_some (vs : Nat → Nat → Value) {n sz j : Nat} {u : Value} (h : (flatV vs n sz)[j]? = some u) : j / sz < n ∧ j % sz < sz ∧ u = vs (j / sz) (j % sz) ∧ j = j / sz * sz + j % sz := by
  have hl := lt_of_getElem? h
  rw [flatV_length] at hl
  have hpos : 0 < sz := by
    rcases Nat.eq_zero_or_pos sz with e | e
    · subst e; simp at hl
    · exact e
  have h1 : j / sz < n := (Nat.div_lt_iff_lt_mul hpos).2 hl
  refine ⟨h1, Nat.mod_lt _ hpos, ?_, ?_⟩
  · simp only [flatV, List.getElem?_map] at h
    rw [List.getElem?_range hl] at h
    simpa using h.symm
  · have := Nat.div_add_mod j sz
    rw [Nat.mul_comm] at this
    omega
end Vx

namespace Vx
open Go Classical
set_option linter.unusedSimpArgs false
set_option linter.unusedVariables false

/-! ## append, the run -/
structure XIs (w : World) (g : Gh) (sz : Nat) (xs : List (List T)) (base : Option Addr) (cap : Nat) (vs : Nat → Nat → Value) : Prop where
  rows : ∀ row ∈ xs, row.length = sz
  parts : ∀ (i : Nat) (row : List T) (c : Nat) (t : T), xs[i]? = some row → row[c]? = some t → Rep w g ⟨.ret, 0, [⟨i, sz, c⟩]⟩ t (vs i c)
  mem : (base = none ∧ xs = [] ∧ cap = 0) ∨ ∃ b off cs el, base = some ⟨b, off, none⟩ ∧ w.heap[b]? = some (.cells cs el (0, 0)) ∧ g.ow b = .own ⟨.ret, 0, []⟩ ∧ cs.size = off + cap * sz ∧ xs.length ≤ cap ∧
    ∀ i c, i < xs.length → c < sz → cs[off + i * sz + c]? = some (vs i c)
structure YIs (w : World) (g : Gh) (sz : Nat) (ys : List (List T)) (p : Option Addr) (vs : Nat → Nat → Value) : Prop where
  rows : ∀ row ∈ ys, row.length = sz
  one : ∀ i c, i < ys.length → c < sz → (vs i c).oneCell' = true
  parts : ∀ (i : Nat) (row : List T) (c : Nat) (t : T), ys[i]? = some row → row[c]? = some t → Rep w g ⟨.ret, 1, [⟨i, sz, c⟩]⟩ t (vs i c)
  mem : ∀ i c, i < ys.length → c < sz → ∃ a, p = some a ∧ w.cell? (a.add (i * sz + c)) = some (vs i c)

section
variable {P : Program} {w : World} {g : Gh} {sz : Nat} {xs ys : List (List T)} {base p : Option Addr} {cap c : Nat} {vs us : Nat → Nat → Value}
theorem YIs.first (h : YIs w g sz ys p us) {w' : World} (hw : ∀ a, w'.cell? a = w.cell? a) : (Builtin.firstCells sz ys.length (.slice p ys.length c)).run P w' = .ok (flatV us ys.length sz).toArray w' := by
  cases p with
  | none =>
    have : flatV us ys.length sz = [] := by
      apply List.eq_nil_of_length_eq_zero
      rw [flatV_length]
      rcases Nat.eq_zero_or_pos ys.length with e | e
      · rw [e]; simp
      · rcases Nat.eq_zero_or_pos sz with e2 | e2
        · rw [e2]; simp
        · obtain ⟨a, h1, _⟩ := h.mem 0 0 e e2
          cases h1
    rw [this]
    exact run_firstCells_none w' _ _ _ _
  | some a =>
    refine run_firstCells_some w' _ _ _ _ _ _ (flatV_length _ _ _) fun j v hj => ?_
    obtain ⟨h1, h2, h3, h4⟩ := flatV_some _ hj
    obtain ⟨a', e1, e2⟩ := h.mem _ _ h1 h2
    cases e1
    rw [hw, h3, h4, mod_row _ _ _ h2, div_row _ _ _ h2]
    exact e2
theorem XIs.first (h : XIs w g sz xs base cap vs) {w' : World} (hw : ∀ a, w'.cell? a = w.cell? a) : (Builtin.firstCells sz xs.length (.slice base xs.length cap)).run P w' = .ok (flatV vs xs.length sz).toArray w' := by
  rcases h.mem with ⟨rfl, rfl, rfl⟩ | ⟨b, off, cs, el, rfl, h1, h2, h3, h4, h5⟩
  · have : flatV vs ([] : List (List T)).length sz = [] := by
      apply List.eq_nil_of_length_eq_zero
      rw [flatV_length]; simp
    rw [this]
    exact run_firstCells_none w' _ _ _ _
  · refine run_firstCells_some w' _ _ _ _ _ _ (flatV_length _ _ _) fun j v hj => ?_
    obtain ⟨e1, e2, e3, e4⟩ := flatV_some _ hj
    rw [hw, addr_add, cell_of h1, e3, e4, mod_row _ _ _ e2, div_row _ _ _ e2, ← Nat.add_assoc]
    exact h5 _ _ e1 e2

theorem run_append_room' {t ty e : TypeId} {i : TypeInfo} (ht : P.underlying t = some (.slice e)) (hi : P.info? e = some i) (hs : i.size = sz) {b off : Nat} {cs : Array Value} {el : TypeId} (h1 : w.heap[b]? = some (.cells cs el (0, 0))) (h3 : cs.size = off + cap * sz) (hY : YIs w g sz ys p us)
    (hroom : xs.length + ys.length ≤ cap) :
    (Builtin.append_ #[t, t] ty #[.slice (some ⟨b, off, none⟩) xs.length cap, .slice p ys.length c]).run P w =
      .ok (.slice (some ⟨b, off, none⟩) (xs.length + ys.length) cap) (w.setRow b (cs.toList.take (off + xs.length * sz) ++ flatV us ys.length sz ++ cs.toList.drop (off + xs.length * sz + ys.length * sz)).toArray) := by
  have hf := hY.first (P := P) (c := c) (w' := w) fun _ => rfl
  have hle : xs.length * sz + ys.length * sz ≤ cap * sz := by rw [← Nat.add_mul]; exact Nat.mul_le_mul_right sz hroom
  have hst := run_storeCells_at P b (off + xs.length * sz) el (flatV us ys.length sz) 0 cs w h1 (by rw [flatV_length]; omega) (fun v hv => by
    obtain ⟨j, hj⟩ := List.getElem?_of_mem hv
    obtain ⟨e1, e2, e3, _⟩ := flatV_some _ hj
    rw [e3]
    exact hY.one _ _ e1 e2)
  simp only [Nat.add_zero, flatV_length] at hst
  simp [Builtin.append_, run_underlying ht, Go.sizeOf, typeInfo, hi, hs, Builtin.lenOf, hroom, hf, addr_add, hst]
theorem run_append_none {t ty e : TypeId} {i : TypeInfo} (ht : P.underlying t = some (.slice e)) (hi : P.info? e = some i) (hs : i.size = sz) (hY : YIs w g sz [] p us) :
    (Builtin.append_ #[t, t] ty #[.slice none 0 0, .slice p 0 c]).run P w = .ok (.slice none 0 0) w := by
  have hf := hY.first (P := P) (c := c) (w' := w) fun _ => rfl
  simp only [List.length_nil] at hf
  simp [Builtin.append_, run_underlying ht, Go.sizeOf, typeInfo, hi, hs, Builtin.lenOf, hf]
theorem run_append_grow' {t ty e : TypeId} {i : TypeInfo} {z : Value} (ht : P.underlying t = some (.slice e)) (hi : P.info? e = some i) (hz : i.zero = some z) (hs : i.size = sz) (hby : i.bytes ≤ 256) (hX : XIs w g sz xs base cap vs) (hY : YIs w g sz ys p us)
    (hgrow : cap < xs.length + ys.length) (hlim : xs.length + ys.length ≤ LIM) :
    (Builtin.append_ #[t, t] ty #[.slice base xs.length cap, .slice p ys.length c]).run P w =
      .ok (.slice (some ⟨w.heap.size, 0, none⟩) (xs.length + ys.length) (grownCap w (xs.length + ys.length) cap e))
        (w.drew.alloc (.cells (flatV vs xs.length sz ++ flatV us ys.length sz ++ (Builtin.zeroCells z.cells (grownCap w (xs.length + ys.length) cap e - (xs.length + ys.length))).toList).toArray e)) := by
  have hn : ¬ (xs.length + ys.length ≤ cap) := by omega
  have hlim' : xs.length + ys.length ≤ 2 ^ 38 := hlim
  have h63' : ¬ (9223372036854775807 < ((xs.length : Int) + (ys.length : Int))) := by omega
  have hle : (xs.length + ys.length) * i.bytes ≤ (xs.length + ys.length) * 256 := Nat.mul_le_mul_left _ hby
  have h48 := growslice_fits (need := xs.length + ys.length) (old := cap) (bytes := i.bytes) hgrow (by omega)
  have h48' : ¬ (281474976710656 < Builtin.nextslicecap (xs.length + ys.length) cap * i.bytes) := by omega
  have hf := hY.first (P := P) (c := c) (w' := w.drew) fun _ => by simp
  have hfo := hX.first (P := P) (w' := w.drew) fun _ => by simp
  simp [Builtin.append_, run_underlying ht, Go.sizeOf, typeInfo, zeroValue, hi, hz, hs, Builtin.lenOf, hn, h63', h48', Question.forced, hf, hfo, newRow, grownCap]
  congr 2
  apply Array.ext'
  simp [List.append_assoc]
end

section
variable {w w' : World} {g : Gh} {d sz cap' B off : Nat} {hdr : Value} {extra : Nat → Option Tag} {xs ys : List (List T)} {base p : Option Addr} {cap : Nat} {vs us : Nat → Nat → Value} {cs' : Array Value} {el : TypeId}
theorem append_rep (hX : XIs w g sz xs base cap vs) (hY : YIs w g sz ys p us) (hh : w'.heap[B]? = some (.cells cs' el (0, 0))) (ho : appOw g d xs.length extra B = .own ⟨.new d, 0, []⟩)
    (hhdr : hdr = .slice (some ⟨B, off, none⟩) (xs ++ ys).length cap') (hsize : cs'.size = off + cap' * sz) (hcap : (xs ++ ys).length ≤ cap') (hlim : (xs ++ ys).length ≤ g.lim)
    (hc1 : ∀ i c, i < xs.length → c < sz → cs'[off + i * sz + c]? = some (vs i c)) (hc2 : ∀ i c, i < ys.length → c < sz → cs'[off + (i + xs.length) * sz + c]? = some (us i c))
    (hm : ∀ b, b < w.heap.size → (∀ a, g.ow b = .own a → a ≠ ⟨.ret, 0, []⟩) → extra b = none ∧ w'.heap[b]? = w.heap[b]?) :
    Rep w' { g with ow := appOw g d xs.length extra, hd := appHd g d xs.length hdr } ⟨.new d, 0, []⟩ (.sl true sz (xs ++ ys)) hdr := by
  subst hhdr
  refine .own (fun i c => if i < xs.length then vs i c else us (i - xs.length) c) (by simp [appHd]) hh ho hsize hcap hlim (fun row hr => ?_) (fun i c h1 h2 => ?_) (fun i row c t h1 h2 => ?_)
  · rcases List.mem_append.1 hr with h | h
    · exact hX.rows _ h
    · exact hY.rows _ h
  · try simp only
    split
    · rename_i h; exact hc1 i c h h2
    · rename_i h
      have := hc2 (i - xs.length) c (by rw [List.length_append] at h1; omega) h2
      rw [show i - xs.length + xs.length = i by omega] at this
      exact this
  · try simp only
    split
    · rename_i h
      rw [List.getElem?_append_left h] at h1
      exact app_left h (hX.parts i row c t h1 h2) hm
    · rename_i h
      rw [List.getElem?_append_right (by omega)] at h1
      have := app_right (w' := w') (n := xs.length) (d := d) (hdr := .slice (some ⟨B, off, none⟩) (xs ++ ys).length cap') (extra := extra) (hY.parts _ row c t h1 h2) hm
      rw [show i - xs.length + xs.length = i by omega] at this
      exact this
end

section
variable {E : Env} {σ : Sg} {tmps : Array Value} {w : World} {g : Gh} {d sz : Nat} {xs ys : List (List T)} {base p : Option Addr} {cap c : Nat} {vs us : Nat → Nat → Value}
/-- An append, both arms. -/
theorem Core.append (hc : Core E σ tmps w g) (hn : σ.isnew d = false) {t ty e : TypeId} {i : TypeInfo} {z : Value} (ht : E.P.underlying t = some (.slice e)) (hi : E.P.info? e = some i) (hz : i.zero = some z) (hs : i.size = sz) (hzs : z.cells.size = sz) (hby : i.bytes ≤ 256)
    (hX : XIs w g sz xs base cap vs) (hY : YIs w g sz ys p us) (hlim : xs.length + ys.length ≤ LIM) (hl : LIM ≤ g.lim) :
    ∃ v w' g', (Builtin.append_ #[t, t] ty #[.slice base xs.length cap, .slice p ys.length c]).run E.P w = .ok v w' ∧ Core E σ tmps w' g' ∧ Move w g w' g' ∧ Rep w' g' ⟨.new d, 0, []⟩ (.sl true sz (xs ++ ys)) v ∧ g'.lim = g.lim := by
  have hkeep : ∀ (extra : Nat → Option Tag) b n, extra b = none → (∀ a, g.ow b = .own a → a.root ≠ .ret) → appOw g d n extra b = g.ow b := by
    intro extra b n he h
    simp only [appOw, he]
    cases ho : g.ow b with
    | own a => simp [h a ho]
    | _ => rfl
  by_cases hroom : xs.length + ys.length ≤ cap
  · rcases hX.mem with ⟨rfl, rfl, rfl⟩ | ⟨b, off, cs, el, rfl, h1, h2, h3, h4, h5⟩
    · have : ys = [] := List.eq_nil_of_length_eq_zero (by simpa using hroom)
      subst this
      obtain ⟨k1, k2⟩ := hc.reown hn (w' := w) (ow' := appOw g d 0 fun _ => none) (hd' := appHd g d 0 (.slice none 0 0)) (Nat.le_refl _) (fun b hb h => ⟨hkeep _ _ _ rfl h, rfl⟩) (fun a ha => by simp [appHd, ha]) ⟨rfl, rfl, rfl⟩
      · exact ⟨_, _, _, run_append_none ht hi hs hY, k1, k2, .onil (by simp [appHd]), rfl⟩
    · have hle : xs.length * sz + ys.length * sz ≤ cap * sz := by rw [← Nat.add_mul]; exact Nat.mul_le_mul_right sz hroom
      have hlt := lt_of_heap h1
      generalize hcs : (cs.toList.take (off + xs.length * sz) ++ flatV us ys.length sz ++ cs.toList.drop (off + xs.length * sz + ys.length * sz)).toArray = cs'
      have hcl : cs.toList.length = off + cap * sz := by rw [Array.length_toList]; exact h3
      have hcsz : cs'.size = off + cap * sz := by
        subst hcs
        simp only [List.size_toArray, List.length_append, List.length_take, List.length_drop, flatV_length, hcl]
        omega
      have hr := run_append_room' (P := E.P) (c := c) (ty := ty) (xs := xs) ht hi hs h1 h3 hY hroom
      rw [hcs] at hr
      obtain ⟨k1, k2⟩ := hc.reown hn (w' := w.setRow b cs') (ow' := appOw g d xs.length fun _ => none) (hd' := appHd g d xs.length (.slice (some ⟨b, off, none⟩) (xs ++ ys).length cap)) (by simp) (fun b' hb h => ⟨hkeep _ _ _ rfl h, setRow_other _ _ _ _ (by rintro rfl; exact h _ h2 rfl)⟩) (fun a ha => by simp [appHd, ha]) ⟨rfl, rfl, rfl⟩
      · rw [← List.length_append] at hr
        refine ⟨_, _, _, hr, k1, k2, append_rep (extra := fun _ => none) hX hY (setRow_heap _ _ _ _ _ _ h1) (by simp [appOw, h2]) rfl hcsz (by rw [List.length_append]; exact hroom) (by rw [List.length_append]; omega) (fun i c' q1 q2 => ?_) (fun i c' q1 q2 => ?_) (fun b' hb h => ⟨rfl, setRow_other _ _ _ _ ?_⟩), rfl⟩
        · have hlt' := row_lt q1 q2
          subst hcs
          rw [List.getElem?_toArray, List.append_assoc, List.getElem?_append_left (by rw [List.length_take, hcl]; omega), List.getElem?_take, if_pos (by omega), Array.getElem?_toList]
          exact h5 i c' q1 q2
        · have hlt' := row_lt q1 q2
          subst hcs
          rw [List.getElem?_toArray, List.append_assoc, List.getElem?_append_right (by rw [List.length_take, hcl, Nat.add_mul]; omega), List.length_take, hcl, Nat.min_eq_left (by omega), List.getElem?_append_left (by rw [flatV_length, Nat.add_mul]; omega), Nat.add_mul,
            show off + (i * sz + xs.length * sz) + c' - (off + xs.length * sz) = i * sz + c' by omega]
          exact flatV_get us q1 q2
        · rintro rfl
          exact h _ h2 rfl
  · have hr := run_append_grow' (P := E.P) (ty := ty) (c := c) ht hi hz hs hby hX hY (by omega) hlim
    have hge := grownCap_ge w (xs.length + ys.length) cap e
    generalize grownCap w (xs.length + ys.length) cap e = G at hr hge
    generalize hcs : (flatV vs xs.length sz ++ flatV us ys.length sz ++ (Builtin.zeroCells z.cells (G - (xs.length + ys.length))).toList).toArray = cs' at hr
    have hcsz : cs'.size = G * sz := by
      subst hcs
      simp only [List.size_toArray, List.length_append, flatV_length, Array.length_toList, size_zeroCells, hzs, ← Nat.add_mul]
      congr 1
      omega
    have hnew : (w.drew.alloc (.cells cs' e (0, 0))).heap[w.heap.size]? = some (.cells cs' e (0, 0)) := Array.getElem?_push_size
    have hold : ∀ b, b < w.heap.size → (w.drew.alloc (.cells cs' e (0, 0))).heap[b]? = w.heap[b]? := fun b hb => by
      show (w.heap.push _)[b]? = _
      rw [Array.getElem?_push]
      rw [if_neg (by omega)]
    let extra : Nat → Option Tag := fun b => if b = w.heap.size then some (.own ⟨.new d, 0, []⟩) else none
    have hex : ∀ b, b < w.heap.size → extra b = none := fun b hb => if_neg (by omega)
    obtain ⟨k1, k2⟩ := hc.reown hn (w' := w.drew.alloc (.cells cs' e (0, 0))) (ow' := appOw g d xs.length extra) (hd' := appHd g d xs.length (.slice (some ⟨w.heap.size, 0, none⟩) (xs ++ ys).length G)) (by show w.heap.size ≤ (w.heap.push _).size; simp) (fun b' hb h => ⟨hkeep _ _ _ (hex _ hb) h, hold _ hb⟩) (fun a ha => by simp [appHd, ha]) ⟨rfl, rfl, rfl⟩
    · rw [← List.length_append] at hr
      refine ⟨_, _, _, hr, k1, k2, append_rep (extra := extra) hX hY hnew (by simp [appOw, extra]) rfl (by rw [hcsz, Nat.zero_add]) (by rw [List.length_append]; exact hge) (by rw [List.length_append]; omega) (fun i c' q1 q2 => ?_) (fun i c' q1 q2 => ?_) (fun b' hb h => ⟨hex _ hb, hold _ hb⟩), rfl⟩
      · have hlt' := row_lt q1 q2
        subst hcs
        rw [Nat.zero_add, List.getElem?_toArray, List.append_assoc, List.getElem?_append_left (by rw [flatV_length]; exact hlt')]
        exact flatV_get vs q1 q2
      · have hlt' := row_lt q1 q2
        subst hcs
        rw [Nat.zero_add, List.getElem?_toArray, List.append_assoc, List.getElem?_append_right (by rw [flatV_length, Nat.add_mul]; omega), flatV_length, List.getElem?_append_left (by rw [flatV_length, Nat.add_mul]; omega), Nat.add_mul,
          show i * sz + xs.length * sz + c' - xs.length * sz = i * sz + c' by omega]
        exact flatV_get us q1 q2
end

section
variable {E : Env} {N : Nat} {o : Oper} {σ : Sg}
theorem appX_ok {sz : Nat} {sx : SV} {f : List (List T) → List Upd → Rd Eff} (h : ((appX sz sx f).run σ).ok) : ∃ xs us, (appX sz sx f).run σ = (f xs us).run σ ∧ ((sx = .c (.t .nil) ∧ xs = [] ∧ us = []) ∨
    ∃ a t, sx = .c (.ref a) ∧ t.at a.path = some (.sl true sz xs) ∧ PlaceIs σ a.root a.c t ∧ us = [.set a.root a.c (t.put a.path .top)]) := by
  rcases sx with (tt | a | _ | _ | _ | _) | _ | _
  case c.t =>
    cases tt with
    | nil => exact ⟨[], [], rfl, .inl ⟨rfl, rfl, rfl⟩⟩
    | _ => exact h.elim
  case c.ref =>
    simp only [appX] at h ⊢
    obtain ⟨t, z, e, hat, hp⟩ := deref_is h
    rw [e] at h ⊢
    cases z with
    | sl ow s xs =>
      cases ow with
      | false => exact h.elim
      | true =>
        by_cases hs : s = sz
        · subst hs
          simp only [if_true] at h ⊢
          exact ⟨xs, _, rfl, .inr ⟨a, t, rfl, hat, hp, rfl⟩⟩
        · simp only [if_neg hs] at h; exact h.elim
    | _ => exact h.elim
  all_goals exact h.elim
theorem appY_ok {sz : Nat} {sy : SV} {f : List (List T) → List Upd → Rd Eff} (h : ((appY sz sy f).run σ).ok) : ∃ ys us, (appY sz sy f).run σ = (f ys us).run σ ∧
    ((sy = .c (.t .nil) ∧ ys = [] ∧ us = []) ∨ (sy = .c (.t (.sl false sz ys)) ∧ oneR ys = true ∧ us = []) ∨ (∃ a t, sy = .c (.ref a) ∧ t.at a.path = some (.sl true sz ys) ∧ PlaceIs σ a.root a.c t ∧ flatR ys = true ∧ us = []) ∨
      ∃ m c, sy = .c (.ref ⟨.new m, c, []⟩) ∧ PlaceIs σ (.new m) c (.sl true sz ys) ∧ oneR ys = true ∧ us = [.hole (.new m) c]) := by
  have viaRef : ∀ (a : CA) {g : Rd Eff}, g = (deref a fun _ t => match t with | .sl true s ys => if s = sz ∧ flatR ys = true then f ys [] else fail | _ => fail) → (g.run σ).ok →
      ∃ ys us, g.run σ = (f ys us).run σ ∧ ∃ t, t.at a.path = some (.sl true sz ys) ∧ PlaceIs σ a.root a.c t ∧ flatR ys = true ∧ us = [] := by
    intro a g hg h
    subst hg
    obtain ⟨t, z, e, hat, hp⟩ := deref_is h
    rw [e] at h ⊢
    cases z with
    | sl ow s ys =>
      cases ow with
      | false => exact h.elim
      | true =>
        by_cases hs : s = sz ∧ flatR ys = true
        · obtain ⟨rfl, h2⟩ := hs
          simp only [h2, and_self, if_true] at h ⊢
          exact ⟨ys, [], rfl, t, hat, hp, h2, rfl⟩
        · simp only [if_neg hs] at h; exact h.elim
    | _ => exact h.elim
  rcases sy with (tt | ⟨r, c, p⟩ | _ | _ | _ | _) | _ | _
  case c.t =>
    cases tt with
    | nil => exact ⟨[], [], rfl, .inl ⟨rfl, rfl, rfl⟩⟩
    | sl ow s ys =>
      cases ow with
      | true => exact h.elim
      | false =>
        simp only [appY] at h ⊢
        by_cases hs : s = sz ∧ oneR ys = true
        · obtain ⟨rfl, h2⟩ := hs
          simp only [h2, and_self, if_true] at h ⊢
          exact ⟨ys, [], rfl, .inr (.inl ⟨rfl, h2, rfl⟩)⟩
        · simp only [if_neg hs] at h; exact h.elim
    | _ => exact h.elim
  case c.ref =>
    have other : ∀ {g : Rd Eff}, g = (deref ⟨r, c, p⟩ fun _ t => match t with | .sl true s ys => if s = sz ∧ flatR ys = true then f ys [] else fail | _ => fail) → (g.run σ).ok → ∃ ys us, g.run σ = (f ys us).run σ ∧
        ((SV.c (.ref ⟨r, c, p⟩) = .c (.t .nil) ∧ ys = [] ∧ us = []) ∨ (SV.c (.ref ⟨r, c, p⟩) = .c (.t (.sl false sz ys)) ∧ oneR ys = true ∧ us = []) ∨ (∃ a t, SV.c (.ref ⟨r, c, p⟩) = .c (.ref a) ∧ t.at a.path = some (.sl true sz ys) ∧ PlaceIs σ a.root a.c t ∧ flatR ys = true ∧ us = []) ∨
          ∃ m c', SV.c (.ref ⟨r, c, p⟩) = .c (.ref ⟨.new m, c', []⟩) ∧ PlaceIs σ (.new m) c' (.sl true sz ys) ∧ oneR ys = true ∧ us = [.hole (.new m) c']) := by
      intro g hg h
      obtain ⟨ys, us, e, t, q1, q2, q3, q4⟩ := viaRef ⟨r, c, p⟩ hg h
      exact ⟨ys, us, e, .inr (.inr (.inl ⟨_, t, rfl, q1, q2, q3, q4⟩))⟩
    cases r with
    | new m =>
      cases p with
      | nil =>
        simp only [appY] at h ⊢
        obtain ⟨t, e, hp⟩ := place_is h
        rw [e] at h ⊢
        cases t with
        | sl ow s ys =>
          cases ow with
          | false => exact h.elim
          | true =>
            by_cases hs : s = sz ∧ oneR ys = true
            · obtain ⟨rfl, h2⟩ := hs
              simp only [h2, and_self, if_true] at h ⊢
              exact ⟨ys, _, rfl, .inr (.inr (.inr ⟨m, c, rfl, hp, h2, rfl⟩))⟩
            · simp only [if_neg hs] at h; exact h.elim
        | _ => exact h.elim
      | cons hh q => exact other rfl h
    | slot n => exact other rfl h
    | obj k => exact other rfl h
    | ret => exact other rfl h
  all_goals exact h.elim

theorem oneR_get {ys : List (List T)} (h : oneR ys = true) {i : Nat} {row : List T} {c : Nat} {t : T} (h1 : ys[i]? = some row) (h2 : row[c]? = some t) : t.one = true := by
  simp only [oneR, List.all_eq_true] at h
  exact h row (List.mem_of_getElem? h1) t (List.mem_of_getElem? h2)
theorem flatR_get {ys : List (List T)} (h : flatR ys = true) {i : Nat} {row : List T} {c : Nat} {t : T} (h1 : ys[i]? = some row) (h2 : row[c]? = some t) : t.flat1 = true := by
  simp only [flatR, List.all_eq_true] at h
  exact h row (List.mem_of_getElem? h1) t (List.mem_of_getElem? h2)
theorem T.flat1_one {t : T} (h : t.flat1 = true) : t.one = true := by cases t <;> first | rfl | cases h
theorem Rep.flat1 {w : World} {g g' : Gh} {a a' : CA} {t : T} {v : Value} (h : Rep w g a t v) (hf : t.flat1 = true) (hl : g.lim ≤ g'.lim) : Rep w g' a' t v := by
  cases h with
  | fro h =>
    cases h with
    | int => exact .fro .int
    | bool => exact .fro .bool
    | str h => exact .fro (.str (Nat.le_trans h hl))
    | _ => cases hf
  | onil => cases hf
  | own => cases hf
theorem row_get {ys : List (List T)} {sz : Nat} (hr : ∀ row ∈ ys, row.length = sz) {i c : Nat} (h1 : i < ys.length) (h2 : c < sz) : ∃ row t, ys[i]? = some row ∧ row[c]? = some t := by
  have h3 := hr _ (List.getElem_mem h1)
  exact ⟨ys[i], ys[i][c], List.getElem?_eq_getElem h1, List.getElem?_eq_getElem (by omega)⟩
theorem XIs.of {w : World} {g : Gh} {sz : Nat} {xs : List (List T)} {v : Value} (h : Rep w g ⟨.ret, 0, []⟩ (.sl true sz xs) v) : ∃ base cap vs, v = .slice base xs.length cap ∧ XIs w g sz xs base cap vs := by
  cases h with
  | fro h => exact h.noOwn.elim
  | onil hd => exact ⟨none, 0, fun _ _ => undef, rfl, ⟨by simp, fun i row c t h => by simp at h, .inl ⟨rfl, rfl, rfl⟩⟩⟩
  | @own _ b off cap sz xs cs el vs hd hh ho hsize hcap hlim hrow hcell hrec => exact ⟨_, cap, vs, rfl, ⟨hrow, hrec, .inr ⟨b, off, cs, el, rfl, hh, ho, hsize, hcap, hcell⟩⟩⟩
theorem XIs.nil (w : World) (g : Gh) (sz : Nat) : XIs w g sz [] none 0 fun _ _ => undef := ⟨by simp, fun i row c t h => by simp at h, .inl ⟨rfl, rfl, rfl⟩⟩
theorem YIs.nil (w : World) (g : Gh) (sz : Nat) : YIs w g sz [] none fun _ _ => undef := ⟨by simp, fun i c h => by simp at h, fun i row c t h => by simp at h, fun i c h => by simp at h⟩
theorem YIs.mk' {w : World} {g : Gh} {sz : Nat} {ys : List (List T)} {b off : Nat} {cs : Array Value} {el : TypeId} {fr : Nat × Nat} {vs : Nat → Nat → Value} (hone : oneR ys = true) (hh : w.heap[b]? = some (.cells cs el fr)) (hrow : ∀ row ∈ ys, row.length = sz)
    (hcell : ∀ i c, i < ys.length → c < sz → cs[off + i * sz + c]? = some (vs i c)) (hrec : ∀ (i : Nat) (row : List T) (c : Nat) (t : T), ys[i]? = some row → row[c]? = some t → Rep w g ⟨.ret, 1, [⟨i, sz, c⟩]⟩ t (vs i c)) :
    YIs w g sz ys (some ⟨b, off, none⟩) vs := by
  refine ⟨hrow, fun i c h1 h2 => ?_, hrec, fun i c h1 h2 => ⟨_, rfl, ?_⟩⟩
  · obtain ⟨row, t, q1, q2⟩ := row_get hrow h1 h2
    exact (hrec i row c t q1 q2).one (oneR_get hone q1 q2)
  · rw [addr_add, cell_of hh, ← Nat.add_assoc]
    exact hcell i c h1 h2
theorem YIs.own {w : World} {g : Gh} {sz : Nat} {ys : List (List T)} {v : Value} (h : Rep w g ⟨.ret, 1, []⟩ (.sl true sz ys) v) (hone : oneR ys = true) : ∃ p c us, v = .slice p ys.length c ∧ YIs w g sz ys p us := by
  cases h with
  | fro h => exact h.noOwn.elim
  | onil hd => exact ⟨none, 0, _, rfl, YIs.nil w g sz⟩
  | @own _ b off cap sz xs cs el vs hd hh ho hsize hcap hlim hrow hcell hrec => exact ⟨_, cap, vs, rfl, YIs.mk' hone hh hrow hcell hrec⟩
theorem YIs.flat {w : World} {g g' : Gh} {a : CA} {sz : Nat} {ys : List (List T)} {v : Value} (h : Rep w g a (.sl true sz ys) v) (hf : flatR ys = true) (hl : g.lim ≤ g'.lim) : ∃ p c us, v = .slice p ys.length c ∧ YIs w g' sz ys p us := by
  have hone : oneR ys = true := by
    simp only [oneR, flatR, List.all_eq_true] at hf ⊢
    exact fun r hr t ht => T.flat1_one (hf r hr t ht)
  cases h with
  | fro h => exact h.noOwn.elim
  | onil hd => exact ⟨none, 0, _, rfl, YIs.nil w g' sz⟩
  | @own _ b off cap sz xs cs el vs hd hh ho hsize hcap hlim hrow hcell hrec => exact ⟨_, cap, vs, rfl, YIs.mk' hone hh hrow hcell fun i row c t h1 h2 => (hrec i row c t h1 h2).flat1 (flatR_get hf h1 h2) hl⟩
theorem YIs.fz {w : World} {g : Gh} {sz : Nat} {ys : List (List T)} {v : Value} (h : FRep w g (.sl false sz ys) v) (hone : oneR ys = true) : ∃ p c us, v = .slice p ys.length c ∧ YIs w g sz ys p us := by
  cases h with
  | @fnil sz p c => exact ⟨p, c, fun _ _ => undef, rfl, ⟨by simp, fun i c h => by simp at h, fun i row c t h => by simp at h, fun i c h => by simp at h⟩⟩
  | fz vs hh ho hcap hlim hrow hcell hrec => exact ⟨_, _, vs, rfl, YIs.mk' hone hh hrow hcell fun i row c t h1 h2 => .fro (hrec i row c t h1 h2)⟩

theorem ok_append (hN : okOper N o = true) {xs : Array Operand} {ts : Array TypeId} (ho : o.op = .call { callee := .builtin .append, args := xs, argTypes := ts }) (h : ((astep E.P o).run σ).ok) : OpOK E N o σ ((astep E.P o).run σ).upd := by
  have hopd : ∀ x ∈ xs.toList, okOpd x = true := fun x hx => okOper_opd hN (by
    rw [ho]
    simp only [Op.operands, Call.operands]
    simp at hx
    simp [hx])
  simp only [astep, ho] at h ⊢
  rcases hxs : xs.toList with _ | ⟨x, _ | ⟨y, _ | ⟨z, l⟩⟩⟩
  case nil => rw [hxs] at h; exact h.elim
  case cons.nil => rw [hxs] at h; exact h.elim
  case cons.cons.cons => rw [hxs] at h; exact h.elim
  rcases hts : ts.toList with _ | ⟨t, _ | ⟨u, _ | ⟨z, l⟩⟩⟩
  case nil => rw [hxs, hts] at h; exact h.elim
  case cons.nil => rw [hxs, hts] at h; exact h.elim
  case cons.cons.cons => rw [hxs, hts] at h; exact h.elim
  rw [hxs, hts] at h
  simp only at h ⊢
  by_cases htu : t = u
  · subst htu
    rw [if_pos rfl] at h ⊢
    have hopx := hopd x (by rw [hxs]; simp)
    have hopy := hopd y (by rw [hxs]; simp)
    unfold stepAppend at h ⊢
    cases hi : tinfo E.P t with
    | none => rw [hi] at h; exact h.elim
    | some i =>
      obtain ⟨kd, agg, size, bytes, zero, fld, el⟩ := i
      cases el with
      | none => rw [hi] at h; exact h.elim
      | some e =>
        rw [hi] at h
        simp only at h ⊢
        cases hei : tinfo E.P e with
        | none => rw [hei] at h; exact h.elim
        | some ei =>
          rw [hei] at h
          simp only at h ⊢
          by_cases hcond : 0 < ei.size ∧ ei.bytes ≤ 256 ∧ ei.zero.length = ei.size
          · rw [if_pos hcond] at h ⊢
            obtain ⟨hz2, hby, hz1⟩ := hcond
            obtain ⟨sx, e1, hrx, vx⟩ := rdS_ok h
            rw [e1] at h ⊢
            obtain ⟨sy, e2, hry, vy⟩ := rdS_ok h
            rw [e2] at h ⊢
            obtain ⟨rx, ux, e3, hX⟩ := appX_ok h
            rw [e3] at h ⊢
            obtain ⟨ry, uy, e4, hY⟩ := appY_ok h
            rw [e4] at h ⊢
            by_cases hlim : rx.length + ry.length ≤ LIM ∧ o.dst.isSome = true
            · rw [if_pos hlim] at h ⊢
              obtain ⟨hlim, hds⟩ := hlim
              obtain ⟨_, p2, _⟩ := put_ok h
              obtain ⟨d, hd⟩ := Option.isSome_iff_exists.1 hds
              obtain ⟨hn, e5, hdi⟩ := p2 d hd
              obtain ⟨inf, z, a1, a2, a3, a4, a5, a6⟩ := tinfo_zero hei hz1 hz2
              have hu := tinfo_elem hi rfl
              have hby' : inf.bytes ≤ 256 := by
                obtain ⟨inf', d', q1, _, _, q4, _⟩ := tinfo_some hei
                rw [a1] at q1; cases q1; omega
              intro a w g hc hs hl K Q hK
              have hdx := distinct_left (distinct_left hdi)
              -- the first operand
              have stepX : ∃ base cap vs g1, a.eval x = .slice base rx.length cap ∧ Core E (σ.upds ux) a.tmps w g1 ∧ Move w g w g1 ∧ XIs w g1 ei.size rx base cap vs ∧ (σ.upds ux).isnew = σ.isnew ∧ (σ.upds ux).ex = σ.ex ∧ g1.lim = g.lim ∧
                  (∀ t v, FRep w g t v → FRep w g1 t v) ∧ (∀ r c p, σ.ex r → g1.hd ⟨r, c, p⟩ = g.hd ⟨r, c, p⟩) ∧ ∀ r c t, PlaceIs σ r c t → Key.place r c ∉ keysOf ux → PlaceIs (σ.upds ux) r c t := by
                have hx := vx E a w g hc hl hopx .ret
                rcases hX with ⟨rfl, rfl, rfl⟩ | ⟨ax, tx, rfl, hat, hp, rfl⟩
                · refine ⟨none, 0, _, g, ?_, hc, Move.refl _ _, XIs.nil _ _ _, rfl, rfl, rfl, fun _ _ h => h, fun _ _ _ _ => rfl, fun _ _ _ h _ => h⟩
                  cases hx with | c hx => cases hx with | t hx => cases hx with | fro hx =>
                    generalize a.eval x = v at hx
                    cases hx; rfl
                · obtain ⟨k1, v, k2, k3⟩ := hc.take1 hp hat ⟨.ret, 0, []⟩ (fun h => h)
                  have hv : a.eval x = v := by
                    cases hx with | c hx => cases hx with | ref hx _ =>
                      rw [hx hp.dirty]; exact k2.own_hd.symm
                  obtain ⟨base, cap, vs, q1, q2⟩ := XIs.of k3
                  refine ⟨base, cap, vs, _, hv.trans q1, k1, Gh.reg_move w g _ _ (fun k e => by cases e), q2, Sg.setP_isnew _ _ _ _, Sg.setP_ex _ _ _ _, rfl, fun t v h => h.frame (Nat.le_refl _) fun b _ hb => ⟨Gh.reg_fz _ _ _ hb, rfl⟩, fun r c p hr => Gh.reg_hd _ _ _ fun e => ?_, fun r c t hp' hk => hp.hole hp' ?_⟩
                  · have e1 : r = .ret := e.1
                    rw [e1] at hr
                    exact hr
                  · rintro ⟨rfl, rfl⟩
                    exact hk (by simp [keysOf, Upd.key])
              obtain ⟨base, cap, vs, g1, ex, c1, m1, hXI, n1, x1, l1, f1, h1, pl1⟩ := stepX
              -- the second
              have stepY : ∃ p c us g2, a.eval y = .slice p ry.length c ∧ Core E ((σ.upds ux).upds uy) a.tmps w g2 ∧ Move w g w g2 ∧ XIs w g2 ei.size rx base cap vs ∧ YIs w g2 ei.size ry p us ∧ ((σ.upds ux).upds uy).isnew = σ.isnew ∧ g2.lim = g.lim := by
                have hy := vy E a w g hc hl hopy .ret
                rcases hY with ⟨rfl, rfl, rfl⟩ | ⟨rfl, hone, rfl⟩ | ⟨ay, ty, rfl, hat, hp, hfl, rfl⟩ | ⟨m, c, rfl, hp, hone, rfl⟩
                · refine ⟨none, 0, _, g1, ?_, c1, m1, hXI, YIs.nil _ _ _, n1, l1⟩
                  cases hy with | c hy => cases hy with | t hy => cases hy with | fro hy =>
                    generalize a.eval y = v at hy
                    cases hy; rfl
                · cases hy with | c hy => cases hy with | t hy => cases hy with | fro hy =>
                    obtain ⟨p, c, us, q1, q2⟩ := YIs.fz (f1 _ _ hy) hone
                    exact ⟨p, c, us, g1, q1, c1, m1, hXI, q2, n1, l1⟩
                · obtain ⟨u, hu'⟩ := hc.deref hat hp.slot hp.obj hp.nret
                  obtain ⟨p, c, us, q1, q2⟩ := YIs.flat (g' := g1) hu' hfl (by rw [l1]; exact Nat.le_refl _)
                  refine ⟨p, c, us, g1, ?_, c1, m1, hXI, q2, n1, l1⟩
                  cases hy with | c hy => cases hy with | ref hy _ =>
                    rw [hy hp.dirty, ← hu'.own_hd]; exact q1
                · have hk : Key.place (.new m) c ∉ keysOf ux := by
                    have := distinct_left hdi
                    rw [distinct_iff, keysOf_append] at this
                    intro hm
                    exact (List.nodup_append.1 this).2.2 _ hm _ (by simp [keysOf, Upd.key]) rfl
                  have hp' := pl1 _ _ _ hp hk
                  obtain ⟨k1, v, k2, k3⟩ := c1.take1 hp' (p := []) rfl ⟨.ret, 1, []⟩ (fun h => h)
                  obtain ⟨p, c', us, q1, q2⟩ := YIs.own k3 hone
                  have hnr : ∀ p' : List Hop, (⟨.ret, 0, p'⟩ : CA).apart ⟨.new m, c, []⟩ := fun p' => CA.apart_root (by simp)
                  refine ⟨p, c', us, _, ?_, k1, m1.trans (Gh.reg_move w g1 _ _ (fun k e => by cases e)), ⟨hXI.rows, fun i row c2 t q3 q4 => ?_, ?_⟩, q2, (Sg.setP_isnew (σ.upds ux) (.new m) c (.t .top)).trans n1, l1⟩
                  · cases hy with | c hy => cases hy with | ref hy _ =>
                      rw [hy hp.dirty, ← h1 _ _ _ hp.ex, ← k2.own_hd]; exact q1
                  · exact (hXI.parts i row c2 t q3 q4).reg_other (hnr _) (cell_apart _ (by omega) _ _)
                  · rcases hXI.mem with h | ⟨b, off, cs, el, b1, b2, b3, b4, b5, b6⟩
                    · exact .inl h
                    · refine .inr ⟨b, off, cs, el, b1, b2, ?_, b4, b5, b6⟩
                      simp only [Gh.reg, b3]
                      rw [if_neg (hnr []).1, if_neg (cell_apart _ (by omega) _ _).1]
              obtain ⟨p, c, us, g2, ey, c2, m2, hXI2, hYI, n2, l2⟩ := stepY
              obtain ⟨v, w', g3, hrun, c3, m3, hrep, l3⟩ := c2.append (d := d) (c := c) (t := t) (ty := o.type) (e := e) (i := inf) (z := z) (sz := ei.size) (by rw [n2]; exact hn) hu a1 a2 a5 a6 hby' hXI2 hYI hlim (by rw [l2]; exact hl)
              have hxs' : xs = #[x, y] := Array.toList_inj.1 hxs
              have hts' : ts = #[t, t] := Array.toList_inj.1 hts
              subst hxs' hts'
              unfold Oper.wp
              have hex : (execOp a.eval o).run E.P w = .ok (.value v) w' := by
                simp [execOp, ho, resolve, invoke, builtin, ex, ey, hrun, Result.andThen]
              rw [hex, Oper.upon_value]
              rw [e5] at hK
              simp only [upds_append] at hK
              refine hK _ _ g3 ?_ (m2.trans m3) (by simpa [Act.put, hd] using hs) (by simp [Act.put, hd])
              simp only [Act.put, hd]
              exact c3.put (by rw [n2]; exact hn) (.c (.t hrep)) (by simp [SV.roots, C.roots]) rfl (.inl (by rw [hs]; exact dst_lt hN hd))
            · rw [if_neg hlim] at h; exact h.elim
          · rw [if_neg hcond] at h; exact h.elim
  · rw [if_neg htu] at h; exact h.elim
end
end Vx

