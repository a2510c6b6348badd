import Derived.Test.YtjfpbaknhaikmaaV24
namespace Vx
open Go Classical
set_option linter.unusedSimpArgs false
set_option linter.unusedVariables false

/-- Each operation's step is sound. -/
def Step1OK (E : Env) (N : Nat) (R : Rel) : Prop :=
  ∀ (o : Oper) (an : Ans) (σ : Sg), okOper N o = true → ((ostep1 E.P R o an).run σ).ok → OpOK E N o σ ((ostep1 E.P R o an).run σ).upd

theorem slot_bool {E : Env} {σ : Sg} {tmps : Array Value} {w : World} {g : Gh} (hc : Core E σ tmps w g) {d : Nat} {b : Bool} (h : σ.slot d = .c (.t (.bool b))) : tmps.getD d undef = .bool b := by
  have := hc.slots d
  rw [h] at this
  generalize tmps.getD d undef = v at this
  cases this with | c h => cases h with | t h => cases h with | fro h => cases h; rfl
theorem slot_val {E : Env} {σ : Sg} {tmps : Array Value} {w : World} {g : Gh} (hc : Core E σ tmps w g) {d : Nat} {v : Value} (h : σ.slot d = .c (.t (.val v))) : tmps.getD d undef = v := by
  have := hc.slots d
  rw [h] at this
  generalize tmps.getD d undef = v' at this
  cases this with | c h => cases h with | t h => cases h with | fro h => cases h; rfl
theorem yielded_of {ops : Array Oper} {tmps : Array Value} {j d : Nat} (hd : (ops[j]?).bind (·.dst) = some d) : yielded ops tmps j = match tmps.getD d undef with | .bool b => some b | _ => none := by
  unfold yielded
  rw [hd]
  simp only [Option.bind_some, Array.getD_eq_getD_getElem?]
  cases tmps[d]? with
  | none => rfl
  | some v => cases v <;> rfl

theorem skip_sound {E : Env} {N : Nat} {o : Oper} {σ : Sg} (hN : okOper N o = true) (h : ((skipOp o).run σ).ok) {a : Act} {w : World} {g : Gh} (hc : Core E σ a.tmps w g) (hs : a.tmps.size = N) {K : Act → World → Prop}
    (hK : ∀ a' w' g', Core E (σ.upds ((skipOp o).run σ).upd) a'.tmps w' g' → Move w g w' g' → a'.tmps.size = N → a'.defers = a.defers → K a' w') : K (a.put o.dst undef) w := by
  unfold skipOp at *
  obtain ⟨_, h2, h3⟩ := put_ok h
  cases hd : o.dst with
  | none =>
    refine hK _ w g ?_ (Move.refl _ _) hs rfl
    rw [(h3 hd).1]
    exact hc
  | some d =>
    obtain ⟨hn, e, _⟩ := h2 d hd
    refine hK _ w g ?_ (Move.refl _ _) (by simpa [Act.put] using hs) rfl
    rw [e]
    exact hc.put hn (.c (.t (.fro .val))) (by simp [SV.roots, C.roots]) rfl (.inl (by rw [hs]; exact dst_lt hN hd))

theorem step_sound {E : Env} {N : Nat} {R : Rel} (h1 : Step1OK E N R) {ops : Array Oper} {Q : Exit → Act → World → Prop} {i : Nat} {o : Oper} (hi : ops[i]? = some o) (hN : okOper N o = true) (an : Ans) (us : List Upd) (rd : List Loc) :
    Sound E N ops Q ⟨i, ostep E.P R ops.toList o an, us, rd⟩ := by
  intro σ a w g K hok hc hs hl hK
  simp only at hok hK ⊢
  unfold wpOp
  rw [hi]
  simp only
  have hrun : ∀ (hw : Region.wanted o (yielded ops a.tmps) = true), ((ostep1 E.P R o an).run σ).ok → (∀ a' w' g', Core E (σ.upds ((ostep1 E.P R o an).run σ).upd) a'.tmps w' g' → Move w g w' g' → a'.tmps.size = N → a'.defers = a.defers → K a' w') →
      (if Region.wanted o (yielded ops a.tmps) = true then o.wp E.P a w K Q ∨ (o.asks E.P a w ∧ LetsOut Q) else K (a.put o.dst undef) w) := by
    intro hw hok' hK'
    rw [if_pos hw]
    exact .inl (h1 o an σ hN hok' a w g hc hs hl K Q hK')
  have hskip : ∀ (hw : ¬ Region.wanted o (yielded ops a.tmps) = true), ((skipOp o).run σ).ok → (∀ a' w' g', Core E (σ.upds ((skipOp o).run σ).upd) a'.tmps w' g' → Move w g w' g' → a'.tmps.size = N → a'.defers = a.defers → K a' w') →
      (if Region.wanted o (yielded ops a.tmps) = true then o.wp E.P a w K Q ∨ (o.asks E.P a w ∧ LetsOut Q) else K (a.put o.dst undef) w) := by
    intro hw hok' hK'
    rw [if_neg hw]
    exact skip_sound hN hok' hc hs hK'
  unfold ostep at hok hK
  cases hg : o.guard with
  | none =>
    rw [hg] at hok hK
    exact hrun (by simp [Region.wanted, hg]) hok hK
  | some gw =>
    obtain ⟨j, want⟩ := gw
    rw [hg] at hok hK
    simp only at hok hK
    cases hd : (ops.toList[j]?).bind (·.dst) with
    | none => rw [hd] at hok; exact hok.elim
    | some d =>
      rw [hd] at hok hK
      have hd' : (ops[j]?).bind (·.dst) = some d := by simpa using hd
      have hy := yielded_of (tmps := a.tmps) hd'
      simp only [Rd.run] at hok hK
      split at hok
      · rename_i b hsl
        rw [hsl] at hK
        simp only at hK
        rw [slot_bool hc hsl] at hy
        by_cases hb : b = want
        · rw [if_pos hb] at hok hK
          exact hrun (by simp [Region.wanted, hg, hy, hb]) hok hK
        · rw [if_neg hb] at hok hK
          exact hskip (by simp [Region.wanted, hg, hy, hb]) hok hK
      · rename_i vs hsl
        rw [hsl] at hK
        simp only at hK
        rw [slot_val hc hsl] at hy
        exact hskip (by simp [Region.wanted, hg, hy]) hok hK
      · exact hok.elim

theorem least {p : Nat → Prop} : ∀ (n : Nat), p n → ∃ k, p k ∧ ∀ m, p m → k ≤ m := by
  intro n
  induction n using Nat.strongRecOn with
  | _ n ih =>
    intro hn
    by_cases h : ∃ m, m < n ∧ p m
    · obtain ⟨m, h1, h2⟩ := h
      exact ih m h1 h2
    · refine ⟨n, hn, fun m hm => ?_⟩
      rcases Nat.lt_or_ge m n with q | q
      · exact absurd ⟨m, q, hm⟩ h
      · exact q
/-! ## Code -/
def okCode (N : Nat) : Code → Bool
  | .region _ ops _ => ops.all (okOper N)
  | .seq a b => okCode N a && okCode N b
  | .cond _ a b => okCode N a && okCode N b
  | .block _ c => okCode N c
  | .loop c => okCode N c
  | _ => true
def axE : AX → Exit
  | .normal => .normal
  | .exit id => .exit id
  | .ret => .ret
/-- What holds at an exit. -/
def At (E : Env) (N : Nat) (a0 : Act) (w0 : World) (g0 : Gh) (Q : AX → St → Prop) : Exit → Act → World → Prop :=
  fun e a w => ∃ ax s g, e = axE ax ∧ Q ax s ∧ Core E s.sg a.tmps w g ∧ Move w0 g0 w g ∧ a.tmps.size = N ∧ a.defers = a0.defers

theorem lk_onlySl (s : St) (n : Nat) : ∀ l : List Nat, lk n (onlySl s l) = if n ∈ l then some (s.slot n) else none
  | [] => by simp [onlySl, lk]
  | m :: l => by
    simp only [onlySl, lk, lk_onlySl s n l, List.mem_cons]
    by_cases e : n = m
    · subst e; simp
    · simp [e]
theorem lk_onlyOb (ol : List Nat) (k : Nat) : ∀ l : List (Nat × List C), lk k (onlyOb ol l) = if k ∈ ol ∨ 100000 ≤ k then lk k l else none
  | [] => by simp [onlyOb, lk]
  | (j, row) :: l => by
    have ih := lk_onlyOb ol k l
    simp only [onlyOb]
    by_cases h : (ol.contains j || decide (100000 ≤ j)) = true
    · rw [if_pos h]
      have h' : j ∈ ol ∨ 100000 ≤ j := by simpa using h
      simp only [lk, ih]
      by_cases e : k = j
      · subst e; simp [h']
      · simp [e]
    · rw [if_neg h, ih]
      have h' : ¬ (j ∈ ol ∨ 100000 ≤ j) := by simpa using h
      by_cases e : k = j
      · subst e; rw [if_neg h', if_neg h']
      · simp only [lk, if_neg e]
theorem lk_onlyVi (ob : List (Nat × List C)) (k : Nat) : ∀ l : List (Nat × C), lk k (onlyVi ob l) = if (lk k ob).isNone = true then lk k l else none
  | [] => by simp [onlyVi, lk]
  | (j, x) :: l => by
    have ih := lk_onlyVi ob k l
    simp only [onlyVi]
    by_cases h : (lk j ob).isNone = true
    · rw [if_pos h]
      simp only [lk, ih]
      by_cases e : k = j
      · subst e; simp [h]
      · simp [e]
    · rw [if_neg h, ih]
      by_cases e : k = j
      · subst e; rw [if_neg h, if_neg h]
      · simp only [lk, if_neg e]
theorem only_slot (s : St) (kl ol : List Nat) (n : Nat) : (s.only kl ol).slot n = if n ∈ kl then s.slot n else .c (.t .top) := by
  show (lk n (onlySl s kl)).getD _ = _
  rw [lk_onlySl]
  split <;> rfl
theorem only_kind (s : St) (kl ol : List Nat) (k : Nat) : (s.only kl ol).kind k = if (k ∈ ol ∨ 100000 ≤ k) ∨ (lk k s.ob).isNone = true then s.kind k else none := by
  simp only [St.kind, St.only, lk_onlyOb, lk_onlyVi]
  cases h : lk k s.ob with
  | none => simp
  | some row =>
    by_cases e : k ∈ ol ∨ 100000 ≤ k
    · simp [e]
    · simp [e]
theorem only_cell (s : St) (kl ol : List Nat) (k c : Nat) : (s.only kl ol).cell k c = if (k ∈ ol ∨ 100000 ≤ k) ∨ (lk k s.ob).isNone = true then s.cell k c else .t .top := by
  simp only [St.cell, St.only, lk_onlyOb, lk_onlyVi]
  cases h : lk k s.ob with
  | none => simp
  | some row =>
    by_cases e : k ∈ ol ∨ 100000 ≤ k
    · simp [e]
    · simp [e]
theorem Core.only {E : Env} {s : St} {tmps : Array Value} {w : World} {g : Gh} (hc : Core E s.sg tmps w g) (kl ol : List Nat) : Core E (s.only kl ol).sg tmps w g := by
  have hex : ∀ r, s.sg.ex r → (s.only kl ol).sg.ex r := by
    intro r h
    cases r with
    | obj k =>
      rcases Nat.lt_or_ge k 100000 with q | q
      · exact .inl q
      · rcases h with h | h | h
        · exact .inl h
        · refine .inr (.inl ?_)
          show (s.only kl ol).kind k ≠ none
          rw [only_kind, if_pos (.inl (.inr q))]
          exact h
        · exact .inr (.inr h)
    | _ => exact h
  refine Core.step hc ⟨Nat.le_refl _, fun _ _ h => ⟨h, rfl⟩, fun r c _ hd => ⟨hd, fun _ => rfl⟩, fun _ _ => rfl⟩ (fun n => ?_) (fun k kd h => ?_) (fun k c => ?_) (fun k es h => .inl ⟨h, fun _ h => ⟨h, rfl⟩⟩) hex (fun b _ => ⟨rfl, rfl⟩) (Nat.le_refl _)
  · by_cases e : n ∈ kl
    · exact .inl ⟨by show (s.only kl ol).slot n = _; rw [only_slot, if_pos e]; rfl, rfl, rfl, fun c => Still.refl _ _ _ _⟩
    · have e2 : (s.only kl ol).sg.slot n = .c (.t .top) := by show (s.only kl ol).slot n = _; rw [only_slot, if_neg e]
      refine .inr ⟨?_, by rw [e2]; rfl, by rw [e2]; simp [SV.roots, C.roots]⟩
      rw [e2]
      exact .c (.t (.fro .top))
  · left
    have h : (s.only kl ol).kind k = some kd := h
    rw [only_kind] at h
    split at h
    · rename_i hcond
      exact ⟨h, fun c => ⟨by show (s.only kl ol).cell k c = _; rw [only_cell, if_pos hcond]; rfl, Still.refl _ _ _ _⟩, fun _ h => ⟨h, rfl⟩⟩
    · cases h
  · by_cases e : (k ∈ ol ∨ 100000 ≤ k) ∨ (lk k s.ob).isNone = true
    · exact .inl (by show (s.only kl ol).cell k c = _; rw [only_cell, if_pos e]; rfl)
    · right
      have : (s.only kl ol).sg.cell k c = .t .top := by show (s.only kl ol).cell k c = _; rw [only_cell, if_neg e]
      rw [this]
      simp [C.roots]

theorem awp_ok {E : Env} {N : Nat} {R : Rel} {keep : List Nat} (hmix : E.P.follows .mixedOrders = true) (h1 : Step1OK E N R) : ∀ (c : Code) (Q : AX → St → Prop) (s : St) (a : Act) (w : World) (g : Gh), okCode N c = true → awp E.P R keep c Q s →
    Core E s.sg a.tmps w g → a.tmps.size = N → LIM ≤ g.lim → ∀ (a0 : Act) (w0 : World) (g0 : Gh), Move w0 g0 w g → a.defers = a0.defers → c.wp E.P (At E N a0 w0 g0 Q) a w := by
  intro c
  induction c with
  | skip =>
    intro Q s a w g _ h hc hs hl a0 w0 g0 hm hd
    exact wp_skip ⟨.normal, s, g, rfl, h, hc, hm, hs, hd⟩
  | region id ops draw =>
    intro Q s a w g hok h hc hs hl a0 w0 g0 hm hd
    simp only [awp] at h
    simp only [okCode, Array.all_eq_true] at hok
    refine region_wp (K := fun s => Q .normal (s.fix keep)) hmix (fun i o an us rd hi => step_sound h1 hi ?_ an us rd) h hc hs hl fun s' a' w' g' hq hc' hm' hs' hd' => ?_
    · obtain ⟨hlt, e⟩ := Array.getElem?_eq_some_iff.1 hi
      rw [← e]; exact hok i hlt
    · obtain ⟨f1, f2⟩ := hc'.fix keep
      exact ⟨.normal, _, _, rfl, hq, f1, (hm.trans hm').trans f2, hs', hd'.trans hd⟩
  | seq x y ihx ihy =>
    intro Q s a w g hok h hc hs hl a0 w0 g0 hm hd
    simp only [awp] at h
    simp only [okCode, Bool.and_eq_true] at hok
    refine wp_seq (wp_mono (ihx _ s a w g hok.1 h hc hs hl a0 w0 g0 hm hd) fun e a1 w1 hq => ?_)
    obtain ⟨ax, s1, g1, rfl, hq, hc1, hm1, hs1, hd1⟩ := hq
    cases ax with
    | normal =>
      exact ihy Q s1 a1 w1 g1 hok.2 hq hc1 hs1 (by rw [hm1.lim, ← hm.lim]; exact hl) a0 w0 g0 hm1 hd1
    | exit id => exact ⟨.exit id, s1, g1, rfl, hq, hc1, hm1, hs1, hd1⟩
    | ret => exact ⟨.ret, s1, g1, rfl, hq, hc1, hm1, hs1, hd1⟩
  | cond cnd x y ihx ihy =>
    intro Q s a w g hok h hc hs hl a0 w0 g0 hm hd
    simp only [okCode, Bool.and_eq_true] at hok
    cases cnd with
    | tmp n =>
      simp only [awp] at h
      split at h
      · rename_i t hsl
        have hv : a.eval (.tmp n) = .bool t := slot_bool hc hsl
        refine wp_cond_split hv (fun ht => ihx Q s a w g hok.1 (h.1 ht) hc hs hl a0 w0 g0 hm hd) (fun ht => ihy Q s a w g hok.2 (h.2 ht) hc hs hl a0 w0 g0 hm hd)
      · exact h.elim
    | const v =>
      cases v with
      | bool t =>
        simp only [awp] at h
        exact wp_cond_split (t := t) rfl (fun ht => ihx Q s a w g hok.1 (h.1 ht) hc hs hl a0 w0 g0 hm hd) (fun ht => ihy Q s a w g hok.2 (h.2 ht) hc hs hl a0 w0 g0 hm hd)
      | _ => exact h.elim
    | func f => exact h.elim
    | global f => exact h.elim
  | block id x ih =>
    intro Q s a w g hok h hc hs hl a0 w0 g0 hm hd
    simp only [awp] at h
    simp only [okCode] at hok
    refine wp_block (wp_mono (ih _ s a w g hok h hc hs hl a0 w0 g0 hm hd) fun e a1 w1 hq => ?_)
    obtain ⟨ax, s1, g1, rfl, hq, hc1, hm1, hs1, hd1⟩ := hq
    cases ax with
    | normal => exact ⟨.normal, s1, g1, rfl, hq, hc1, hm1, hs1, hd1⟩
    | exit j =>
      simp only at hq
      show Exit.inBlock id _ (.exit j) a1 w1
      simp only [Exit.inBlock]
      by_cases hj : j = id
      · rw [if_pos hj] at hq ⊢
        exact ⟨.normal, s1, g1, rfl, hq, hc1, hm1, hs1, hd1⟩
      · rw [if_neg hj] at hq ⊢
        exact ⟨.exit j, s1, g1, rfl, hq, hc1, hm1, hs1, hd1⟩
    | ret => exact ⟨.ret, s1, g1, rfl, hq, hc1, hm1, hs1, hd1⟩
  | loop x ih =>
    intro Q s a w g hok h hc hs hl a0 w0 g0 hm hd
    simp only [awp, aloop] at h
    simp only [okCode] at hok
    obtain ⟨kl, ol, I, ⟨n0, hn0⟩, hround⟩ := h
    let J : Nat → Act → World → Prop := fun n a w => ∃ s g, I n s ∧ Core E s.sg a.tmps w g ∧ Move w0 g0 w g ∧ a.tmps.size = N ∧ a.defers = a0.defers
    let μ : Act → World → Nat := fun a w => if h : ∃ n, J n a w then choose (least (p := fun n => J n a w) (choose h) (choose_spec h)) else 0
    have hμ : ∀ {n a w}, J n a w → J (μ a w) a w ∧ μ a w ≤ n := by
      intro n a w hJ
      have hex : ∃ n, J n a w := ⟨n, hJ⟩
      simp only [μ]
      rw [dif_pos hex]
      have := choose_spec (least (p := fun n => J n a w) (choose hex) (choose_spec hex))
      exact ⟨this.1, this.2 n hJ⟩
    refine wp_loop (fun a w => ∃ n, J n a w) μ ⟨n0, s.only kl ol, g, hn0, hc.only kl ol, hm, hs, hd⟩ fun a1 w1 hJ => ?_
    obtain ⟨n, hJ⟩ := hJ
    obtain ⟨⟨s1, g1, hI1, hc1, hm1, hs1, hd1⟩, hle⟩ := hμ hJ
    refine wp_mono (ih _ s1 a1 w1 g1 hok (hround _ s1 hI1) hc1 hs1 (by rw [hm1.lim, ← hm.lim]; exact hl) a0 w0 g0 hm1 hd1) fun e a2 w2 hq => ?_
    obtain ⟨ax, s2, g2, rfl, hq, hc2, hm2, hs2, hd2⟩ := hq
    cases ax with
    | normal =>
      obtain ⟨m, hlt, hIm⟩ := hq
      have hJ2 : J m a2 w2 := ⟨s2.only kl ol, g2, hIm, hc2.only kl ol, hm2, hs2, hd2⟩
      exact ⟨⟨m, hJ2⟩, Nat.lt_of_le_of_lt (hμ hJ2).2 hlt⟩
    | exit id => exact ⟨.exit id, s2, g2, rfl, hq, hc2, hm2, hs2, hd2⟩
    | ret => exact ⟨.ret, s2, g2, rfl, hq, hc2, hm2, hs2, hd2⟩
  | exit id =>
    intro Q s a w g _ h hc hs hl a0 w0 g0 hm hd
    exact wp_exit ⟨.exit id, s, g, rfl, h, hc, hm, hs, hd⟩
  | ret =>
    intro Q s a w g _ h hc hs hl a0 w0 g0 hm hd
    exact wp_ret ⟨.ret, s, g, rfl, h, hc, hm, hs, hd⟩
  | _ => intro Q s a w g _ h; exact h.elim
end Vx
