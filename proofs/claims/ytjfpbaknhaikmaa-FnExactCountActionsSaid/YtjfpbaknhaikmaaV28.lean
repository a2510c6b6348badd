import Derived.Test.YtjfpbaknhaikmaaV27
namespace Vx
open Go Classical
set_option linter.unusedSimpArgs false
set_option linter.unusedVariables false

/-! ## Calls -/
structure Bridge (g gh : Gh) (cl : Bool) : Prop where
  lim : gh.lim = g.lim
  fz : ∀ b, g.ow b = .frozen → gh.ow b = .frozen
  own : cl = false → ∀ b a, g.ow b = .own a → gh.ow b = .frozen
theorem Bridge.left {g gh : Gh} {c1 c2 : Bool} (h : Bridge g gh (c1 && c2)) : Bridge g gh c1 := ⟨h.lim, h.fz, fun e => h.own (by simp [e])⟩
theorem Bridge.right {g gh : Gh} {c1 c2 : Bool} (h : Bridge g gh (c1 && c2)) : Bridge g gh c2 := ⟨h.lim, h.fz, fun e => h.own (by simp [e])⟩

/-- The callee sees `z` where the caller has `x`. -/
structure Pass (E : Env) (σ : Sg) (x z : C) (p : Prop) (cl : Bool) : Prop where
  own : p → z.isOwn = false
  roots : z.roots = []
  rep : p → x.isOwn = false → ∀ (tmps : Array Value) (w : World) (g gh : Gh) (v : Value) (a : CA), Core E σ tmps w g → Bridge g gh cl → CRep w g σ.dirty a x v → CRep w gh noDirt a z v
inductive PassL (E : Env) (σ : Sg) : List C → List C → Prop → Bool → Prop where
  | nil : PassL E σ [] [] True true
  | cons {x z l m p q c1 c2} (h : Pass E σ x z p c1) (t : PassL E σ l m q c2) : PassL E σ (x :: l) (z :: m) (p ∧ q) (c1 && c2)
theorem PassL.spec {E : Env} {σ : Sg} {l m : List C} {p : Prop} {cl : Bool} (h : PassL E σ l m p cl) : m.length = l.length ∧ (∀ z ∈ m, (p → z.isOwn = false) ∧ z.roots = []) ∧
    (p → ∀ (tmps : Array Value) (w : World) (g gh : Gh), Core E σ tmps w g → Bridge g gh cl → ∀ (j : Nat) (x z : C) (v : Value) (a : CA), l[j]? = some x → m[j]? = some z → x.isOwn = false → CRep w g σ.dirty a x v → CRep w gh noDirt a z v) := by
  induction h with
  | nil => exact ⟨rfl, by simp, fun _ tmps w g gh _ _ j x z v a h => by simp at h⟩
  | cons h t ih =>
    obtain ⟨i1, i2, i3⟩ := ih
    refine ⟨by simp [i1], fun y hy => ?_, fun hp tmps w g gh hc hb j x z v a hj hz hx hr => ?_⟩
    · rcases List.mem_cons.1 hy with e | e
      · subst e; exact ⟨fun hp => h.own hp.1, h.roots⟩
      · exact ⟨fun hp => (i2 y e).1 hp.2, (i2 y e).2⟩
    · cases j with
      | zero =>
        simp only [List.getElem?_cons_zero, Option.some.injEq] at hj hz
        subst hj hz
        exact h.rep hp.1 hx tmps w g gh v a hc hb.left hr
      | succ j => exact i3 hp.2 tmps w g gh hc hb.right j x z v a (by simpa using hj) (by simpa using hz) hx hr
mutual
theorem passC_ok {E : Env} {σ : Sg} : ∀ (x : C) {f : C → Prop → Bool → Rd Eff}, ((passC [] x f).run σ).ok → ∃ z p cl, Pass E σ x z p cl ∧ (passC [] x f).run σ = (f z p cl).run σ
  | .t y, f, h => by
    simp only [passC] at h ⊢
    exact ⟨.t y, y.view = y, true, ⟨fun hp => by
        cases y with
        | sl o sz xs =>
          rw [T.view_sl] at hp
          cases o with
          | true => cases hp
          | false => rfl
        | _ => rfl, rfl, fun hp hx tmps w g gh v a hc hb hr => by
        cases hr with
        | t hr => exact .t (.fro ((hr.closed hp).frame (by rw [hb.lim]; exact Nat.le_refl _) fun b _ h => ⟨hb.fz b h, rfl⟩))⟩, rfl⟩
  | .ref a, f, h => by
    simp only [passC, List.findIdx?_nil, List.any_nil, Bool.false_eq_true, if_false] at h ⊢
    obtain ⟨t, y, e, hat, hp⟩ := deref_is h
    rw [e] at h ⊢
    by_cases ho : y.isOwn = true
    · rw [if_pos ho] at h ⊢
      refine ⟨.t y.view, True, false, ⟨fun _ => ?_, rfl, fun _ _ tmps w g gh v a' hc hb hr => ?_⟩, rfl⟩
      · cases y with
        | sl o sz xs => rw [T.view_sl]; rfl
        | _ => cases ho
      · obtain ⟨u, hu⟩ := hc.deref hat hp.slot hp.obj hp.nret
        have hv : v = u := by
          cases hr with
          | ref hr _ =>
            rw [hr hp.dirty]
            cases y with
            | sl o sz xs =>
              cases o with
              | true => exact hu.own_hd.symm
              | false => cases ho
            | _ => cases ho
        rw [hv]
        exact .t (.fro (hu.freeze (by rw [hb.lim]; exact Nat.le_refl _) (fun b _ h => hb.fz b h) (fun b a' _ _ h => hb.own rfl b a' h)))
    · rw [if_neg ho] at h; exact h.elim
  | .ptr ⟨r, c, q⟩, f, h => by
    cases r with
    | obj k =>
      cases q with
      | nil => simp only [passC, List.findIdx?_nil] at h; exact h.elim
      | cons _ _ => exact h.elim
    | _ => exact h.elim
  | .fp row c, f, h => by
    simp only [passC] at h ⊢
    refine ⟨_, _, _, ⟨fun _ => rfl, rfl, fun _ _ tmps w g gh v a hc hb hr => ?_⟩, rfl⟩
    cases hr with
    | fp vs hh ho hcell hrec => exact .fp vs hh (hb.fz _ ho) hcell fun j x hj => (hrec j x hj).frame (by rw [hb.lim]; exact Nat.le_refl _) fun b _ h => ⟨hb.fz b h, rfl⟩
  | .clo g caps, f, h => by
    simp only [passC] at h ⊢
    obtain ⟨m, p, cl, hP, e⟩ := passL_ok (E := E) caps h
    obtain ⟨p1, p2, p3⟩ := hP.spec
    refine ⟨.clo g m, p, cl, ⟨fun _ => rfl, ?_, fun hp _ tmps w g0 gh v a hc hb hr => ?_⟩, e⟩
    · simp only [C.roots]
      rw [List.eq_nil_iff_forall_not_mem]
      intro r hr
      obtain ⟨z, hz, hr⟩ := C.mem_rootsL.1 hr
      rw [(p2 z hz).2] at hr
      cases hr
    · cases hr with
      | clo vs hn hcap =>
        rw [← p1]
        refine .clo vs (fun z hz => (p2 z hz).1 hp) fun j z hj => ?_
        have hlt := lt_of_getElem? hj
        have hlt' : j < caps.length := by omega
        exact p3 hp tmps w g0 gh hc hb j caps[j] z (vs j) a (List.getElem?_eq_getElem hlt') hj (hn _ (List.getElem_mem hlt')) (hcap j _ (List.getElem?_eq_getElem hlt'))
  | .mp k, f, h => by simp only [passC, List.findIdx?_nil] at h; exact h.elim
theorem passL_ok {E : Env} {σ : Sg} : ∀ (l : List C) {f : List C → Prop → Bool → Rd Eff}, ((passL [] l f).run σ).ok → ∃ m p cl, PassL E σ l m p cl ∧ (passL [] l f).run σ = (f m p cl).run σ
  | [], f, h => ⟨[], True, true, .nil, by simp only [passL]⟩
  | x :: l, f, h => by
    simp only [passL] at h ⊢
    obtain ⟨z, p, c1, h1, e1⟩ := passC_ok (E := E) x h
    rw [e1] at h ⊢
    obtain ⟨m, q, c2, h2, e2⟩ := passL_ok (E := E) l h
    exact ⟨_, _, _, .cons h1 h2, e2⟩
end

inductive PassA (E : Env) (σ : Sg) : List Operand → List SV → Prop → Bool → Prop where
  | nil : PassA E σ [] [] True true
  | c {x y z l m p q c1 c2} (hx : ∃ sv, sv = SV.c y ∧ (∀ a tmps w g, Core E σ (Act.tmps a) w g → tmps = a.tmps → LIM ≤ g.lim → okOpd x = true → SVRep w g σ.dirty .ret 0 sv (a.eval x))) (hy : y.isOwn = false) (h : Pass E σ y z p c1) (t : PassA E σ l m q c2) : PassA E σ (x :: l) (.c z :: m) (p ∧ q) (c1 && c2)
  | agg {x row zs l m p q c1 c2} (hx : ∃ sv, sv = SV.agg row ∧ (∀ a tmps w g, Core E σ (Act.tmps a) w g → tmps = a.tmps → LIM ≤ g.lim → okOpd x = true → SVRep w g σ.dirty .ret 0 sv (a.eval x))) (hy : ∀ y ∈ row, y.isOwn = false) (h : PassL E σ row zs p c1) (t : PassA E σ l m q c2) : PassA E σ (x :: l) (.agg zs :: m) (p ∧ q) (c1 && c2)
theorem passArgs_ok {E : Env} {σ : Sg} : ∀ (l : List Operand) {f : List SV → Prop → Bool → Rd Eff}, ((passArgs [] l f).run σ).ok → ∃ m p cl, PassA E σ l m p cl ∧ (passArgs [] l f).run σ = (f m p cl).run σ
  | [], f, h => ⟨[], True, true, .nil, by simp only [passArgs]⟩
  | x :: l, f, h => by
    simp only [passArgs] at h ⊢
    obtain ⟨sv, e, hr, e2, e3, _⟩ := rdS_ok2 h
    rw [e] at h ⊢
    cases sv with
    | c y =>
      simp only at h ⊢
      obtain ⟨z, p, c1, h1, e1⟩ := passC_ok (E := E) y h
      rw [e1] at h ⊢
      obtain ⟨m, q, c2, h2, e4⟩ := passArgs_ok (E := E) l h
      exact ⟨_, _, _, .c ⟨_, rfl, fun a tmps w g hc _ hl ho => e2 E a w g hc hl ho .ret⟩ (e3 _ rfl y (by simp)) h1 h2, e4⟩
    | agg row =>
      simp only at h ⊢
      obtain ⟨zs, p, c1, h1, e1⟩ := passL_ok (E := E) row h
      rw [e1] at h ⊢
      obtain ⟨m, q, c2, h2, e4⟩ := passArgs_ok (E := E) l h
      exact ⟨_, _, _, .agg ⟨_, rfl, fun a tmps w g hc _ hl ho => e2 E a w g hc hl ho .ret⟩ (e3 _ rfl) h1 h2, e4⟩
    | tup l => exact h.elim
theorem PassA.spec {E : Env} {σ : Sg} {l : List Operand} {m : List SV} {p : Prop} {cl : Bool} (h : PassA E σ l m p cl) : m.length = l.length ∧ (∀ z ∈ m, z.roots = [] ∧ z.flat = true) ∧
    (p → ∀ (a : Act) (w : World) (g gh : Gh), Core E σ a.tmps w g → LIM ≤ g.lim → (∀ x ∈ l, okOpd x = true) → Bridge g gh cl → ∀ (j : Nat) (x : Operand) (z : SV) (r : Root), l[j]? = some x → m[j]? = some z → SVRep w gh noDirt r 0 z (a.eval x)) := by
  induction h with
  | nil => exact ⟨rfl, by simp, fun _ a w g gh _ _ _ _ j x z r h => by simp at h⟩
  | @c x y z l m p q c1 c2 hx hy h t ih =>
    obtain ⟨i1, i2, i3⟩ := ih
    refine ⟨by simp [i1], fun y' hy' => ?_, fun hp a w g gh hc hl ho hb j x' z' r hj hz => ?_⟩
    · rcases List.mem_cons.1 hy' with e | e
      · subst e; exact ⟨h.roots, rfl⟩
      · exact i2 y' e
    · cases j with
      | zero =>
        simp only [List.getElem?_cons_zero, Option.some.injEq] at hj hz
        subst hj hz
        obtain ⟨sv, rfl, hx⟩ := hx
        have := hx a _ w g hc rfl hl (ho _ (by simp))
        cases this with | c this => exact .c ((h.rep hp.1 hy a.tmps w g gh _ _ hc hb.left this).repos (h.own hp.1))
      | succ j => exact i3 hp.2 a w g gh hc hl (fun x hx => ho x (by simp [hx])) hb.right j x' z' r (by simpa using hj) (by simpa using hz)
  | @agg x row zs l m p q c1 c2 hx hy h t ih =>
    obtain ⟨i1, i2, i3⟩ := ih
    obtain ⟨s1, s2, s3⟩ := h.spec
    refine ⟨by simp [i1], fun y' hy' => ?_, fun hp a w g gh hc hl ho hb j x' z' r hj hz => ?_⟩
    · rcases List.mem_cons.1 hy' with e | e
      · subst e
        refine ⟨?_, rfl⟩
        simp only [SV.roots]
        rw [List.eq_nil_iff_forall_not_mem]
        intro r hr
        obtain ⟨z, hz, hr⟩ := C.mem_rootsL.1 hr
        rw [(s2 z hz).2] at hr
        cases hr
      · exact i2 y' e
    · cases j with
      | zero =>
        simp only [List.getElem?_cons_zero, Option.some.injEq] at hj hz
        subst hj hz
        obtain ⟨sv, rfl, hx⟩ := hx
        have := hx a _ w g hc rfl hl (ho _ (by simp))
        revert this
        generalize a.eval x = v
        intro this
        cases this with
        | agg vs this =>
          rw [← s1]
          refine .agg vs fun k z hk => ?_
          have hlt := lt_of_getElem? hk
          have hlt' : k < row.length := by omega
          exact (s3 hp.1 a.tmps w g gh hc hb.left k row[k] z (vs k) _ (List.getElem?_eq_getElem hlt') hk (hy _ (List.getElem_mem hlt')) (this k _ (List.getElem?_eq_getElem hlt'))).repos ((s2 z (List.mem_of_getElem? hk)).1 hp.1)
      | succ j => exact i3 hp.2 a w g gh hc hl (fun x hx => ho x (by simp [hx])) hb.right j x' z' r (by simpa using hj) (by simpa using hz)
end Vx
