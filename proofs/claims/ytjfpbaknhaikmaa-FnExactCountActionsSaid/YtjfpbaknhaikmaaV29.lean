import Derived.Test.YtjfpbaknhaikmaaV28
namespace Vx
open Go Classical
set_option linter.unusedSimpArgs false
set_option linter.unusedVariables false

theorem Rep.mapN {w w' : World} {g g' : Gh} (f : CA → CA) {a : CA} {t : T} {v : Value} (h : Rep w g a t v) (hn : t.noFz = true) (hl : g.lim ≤ g'.lim) (hf : ∀ a', a'.under a → ∀ s, f (a'.hop s) = (f a').hop s)
    (how : ∀ b a', b < w.heap.size → a'.under a → g.ow b = .own a' → g'.ow b = .own (f a') ∧ w'.heap[b]? = w.heap[b]?) (hhd : ∀ a', a'.under a → g'.hd (f a') = g.hd a') : Rep w' g' (f a) t v := by
  induction h with
  | @fro a t v h =>
    cases h with
    | int => exact .fro .int
    | bool => exact .fro .bool
    | str h => exact .fro (.str (Nat.le_trans h hl))
    | val => exact .fro .val
    | top => exact .fro .top
    | nil => exact .fro .nil
    | fnil => exact .fro .fnil
    | @fz b off cap sz xs cs el fr vs hh ho hcap hlim hrow hcell hrec =>
      rw [T.noFz_sl] at hn
      simp only [Bool.false_or, Bool.and_eq_true, List.isEmpty_iff] at hn
      have : xs = [] := hn.1
      subst this
      exact .fro .fnil
  | onil hd => exact .onil ((hhd _ (CA.under_refl _)).trans hd)
  | @own a b off cap sz xs cs el vs hd hh ho hsize hcap hlim hrow hcell hrec ih =>
    obtain ⟨ho', hw'⟩ := how _ a (lt_of_heap hh) (CA.under_refl _) ho
    rw [T.noFz_sl] at hn
    simp only [Bool.true_or, Bool.true_and, List.all_eq_true] at hn
    refine .own vs ((hhd _ (CA.under_refl _)).trans hd) (hw'.trans hh) ho' hsize hcap (Nat.le_trans hlim hl) hrow hcell fun i row c t h1 h2 => ?_
    have := ih i row c t h1 h2 (hn row (List.mem_of_getElem? h1) t (List.mem_of_getElem? h2)) (fun a' h => hf a' (CA.under_of_hop h)) (fun b a' hl h => how b a' hl (CA.under_of_hop h)) (fun a' h => hhd a' (CA.under_of_hop h))
    rw [hf a (CA.under_refl _)] at this
    exact this

/-- Data moves from one root to another. -/
theorem SVRep.mapData {w w' : World} {g g' : Gh} {d d' : Dirt} {r r' : Root} {sv : SV} {v : Value} (h : SVRep w g d r 0 sv v) (hd : sv.data = true)
    (hrep : ∀ (c : Nat) (t : T) (u : Value), (sv.noFz = true → t.noFz = true) → Rep w g ⟨r, c, []⟩ t u → Rep w' g' ⟨r', c, []⟩ t u) : SVRep w' g' d' r' 0 sv v := by
  have cell : ∀ {c : Nat} {x : C} {u : Value}, x.data = true → (sv.noFz = true → x.noFz = true) → CRep w g d ⟨r, c, []⟩ x u → CRep w' g' d' ⟨r', c, []⟩ x u := by
    intro c x u hx hn hr
    cases hr with
    | t hr => exact .t (hrep c _ u hn hr)
    | _ => cases hx
  cases h with
  | c h => exact .c (cell hd (fun e => e) h)
  | agg vs h =>
    simp only [SV.data, List.all_eq_true] at hd
    refine .agg vs fun j x hj => ?_
    exact cell (hd x (List.mem_of_getElem? hj)) (fun e => by simp only [SV.noFz, List.all_eq_true] at e; exact e x (List.mem_of_getElem? hj)) (h j x hj)
  | tup vs h =>
    simp only [SV.data, List.all_eq_true] at hd
    refine .tup vs fun j x hj => ?_
    have hm := List.mem_of_getElem? hj
    have hdx := hd x hm
    have hnx : (SV.tup _).noFz = true → _ := fun e => by simp only [SV.noFz, List.all_eq_true] at e; exact e x hm
    have hx := h j x hj
    revert hx
    generalize vs j = u
    intro hx
    cases hx with
    | c hx => exact .c (cell hdx (fun e => hnx e) hx)
    | agg us hx =>
      simp only [Bool.and_eq_true, List.all_eq_true] at hdx
      refine .agg us fun i y hi => ?_
      exact cell (hdx.1 y (List.mem_of_getElem? hi)) (fun e => by have := hnx e; simp only [List.all_eq_true] at this; exact this y (List.mem_of_getElem? hi)) (hx i y hi)
    | tup us hx => cases hdx
theorem SV.data_flat {sv : SV} (h : sv.data = true) : sv.flat = true := by
  cases sv with
  | tup l =>
    simp only [SV.data, SV.flat, List.all_eq_true] at *
    intro x hx
    have := h x hx
    cases x with
    | c y => rfl
    | agg row => simp only [Bool.and_eq_true] at this; exact this.2
    | tup l => cases this
  | _ => rfl
theorem SV.data_roots {sv : SV} (h : sv.data = true) : sv.roots = [] := by
  have cell : ∀ {x : C}, x.data = true → x.roots = [] := by
    intro x hx
    cases x with
    | t y => rfl
    | _ => cases hx
  have row : ∀ {l : List C}, l.all C.data = true → C.rootsL l = [] := by
    intro l hl
    rw [List.eq_nil_iff_forall_not_mem]
    intro r hr
    obtain ⟨z, hz, hr⟩ := C.mem_rootsL.1 hr
    simp only [List.all_eq_true] at hl
    rw [cell (hl z hz)] at hr
    cases hr
  cases sv with
  | c x => exact cell h
  | agg l => exact row h
  | tup l =>
    simp only [SV.roots]
    rw [List.eq_nil_iff_forall_not_mem]
    intro r hr
    obtain ⟨z, hz, hr⟩ := SV.mem_rootsL.1 hr
    simp only [SV.data, List.all_eq_true] at h
    have := h z hz
    cases z with
    | c x => simp only [SV.roots] at hr; rw [cell this] at hr; cases hr
    | agg l => simp only [Bool.and_eq_true] at this; simp only [SV.roots] at hr; rw [row this.1] at hr; cases hr
    | tup l => cases this

/-- The callee's ghost. -/
def calleeGh (g : Gh) (cl : Bool) : Gh :=
  { g with ow := fun b => match g.ow b with
    | .own _ => if cl then .other else .frozen
    | .box _ => .other
    | t => t }
/-- The caller's ghost, after. -/
noncomputable def backGh (n : Nat) (r0 : Root) (g gh : Gh) : Gh :=
  { g with
    ow := fun b => if b < n then g.ow b else match gh.ow b with
      | .own a => if a.root = .ret then .own { a with root := r0 } else .other
      | .box _ => .other
      | t => t
    hd := fun a => if a.root = r0 then gh.hd { a with root := .ret } else g.hd a }

section
variable {E : Env} {N : Nat} {o : Oper} {σ : Sg}
theorem call_ok (hN : okOper N o = true) {f : Nat} {xs : Array Operand} {ats : Array TypeId} {an : Ans} (ho : o.op = .call { callee := .value (.func f), args := xs, argTypes := ats })
    (h : ((stepCall (Returns E) o f xs.toList an).run σ).ok) : OpOK E N o σ ((stepCall (Returns E) o f xs.toList an).run σ).upd := by
  have hopd : ∀ x ∈ xs.toList, okOpd x = true := fun x hx => okOper_opd hN (by
    rw [ho]
    simp only [Op.operands, Call.operands]
    simp at hx
    simp [hx])
  unfold stepCall at h ⊢
  obtain ⟨fa, p, cl, hP, e⟩ := passArgs_ok (E := E) xs.toList h
  rw [e] at h ⊢
  obtain ⟨⟨hret, hp, hcl⟩, h2, h3⟩ := put_ok h
  obtain ⟨s1, s2, s3⟩ := hP.spec
  obtain ⟨hdata, hcall, hrun⟩ := hret
  intro a w g hc hs hl K Q hK
  have hlim : (calleeGh g cl).lim = g.lim := rfl
  have hbr : Bridge g (calleeGh g cl) cl := ⟨rfl, fun b hb => by simp [calleeGh, hb], fun hcl b a hb => by simp [calleeGh, hb, hcl]⟩
  have htag : ∀ b, (calleeGh g cl).ow b = .frozen ∨ (calleeGh g cl).ow b = .other := by
    intro b
    simp only [calleeGh]
    cases g.ow b with
    | own a => simp only; cases cl <;> simp
    | box k => simp
    | frozen => simp
    | other => simp
  have hargs := s3 hp a w g _ hc hl hopd hbr
  have hent : Core E (entrySt fa []).sg (xs.map a.eval) w (calleeGh g cl) := by
    refine ⟨fun n => ?_, fun n => ?_, fun n r hr => ?_, fun k c r hr => ?_, fun k kd hk => ?_, fun k es hk => ?_, fun b hb => ?_, hc.size⟩
    · show SVRep w _ noDirt (.slot n) 0 ((entrySt fa []).slot n) _
      rw [entry_slot]
      cases hn : fa[n]? with
      | none => exact .c (.t (.fro .top))
      | some z =>
        have hlt := lt_of_getElem? hn
        have hlt' : n < xs.toList.length := by omega
        have := hargs n xs.toList[n] z (.slot n) (List.getElem?_eq_getElem hlt') hn
        have e2 : (xs.map a.eval).getD n undef = a.eval xs.toList[n] := by
          have hlt2 : n < xs.size := by simpa using hlt'
          simp [Array.getD_eq_getD_getElem?, hlt2]
        rw [e2]
        exact this
    · show ((entrySt fa []).slot n).flat = true
      rw [entry_slot]
      cases hn : fa[n]? with
      | none => rfl
      | some z => exact (s2 z (List.mem_of_getElem? hn)).2
    · have hr : r ∈ ((entrySt fa []).slot n).roots := hr
      rw [entry_slot] at hr
      cases hn : fa[n]? with
      | none => rw [hn] at hr; simp [SV.roots, C.roots] at hr
      | some z =>
        rw [hn] at hr
        simp only [Option.getD_some] at hr
        rw [(s2 z (List.mem_of_getElem? hn)).1] at hr
        cases hr
    · have hr : r ∈ ((entrySt fa []).cell k c).roots := hr
      simp [St.cell, entrySt, obsOf, visOf, lk, C.roots] at hr
    · have hk : (entrySt fa []).kind k = some kd := hk
      simp [St.kind, entrySt, obsOf, visOf, lk] at hk
    · have hk : (entrySt fa []).map k = some es := hk
      simp [St.map, entrySt, mpsOf, lk] at hk
    · obtain ⟨e1, e2⟩ := hc.glob b hb
      exact ⟨by simp [calleeGh, e1], e2⟩
  have hex : (execOp a.eval o).run E.P w = .ok (.enter f (xs.map a.eval)) w := by
    simp only [execOp, ho, resolve, Act.eval, Deferred.ofValue, Sem.run_bind, Sem.run_pure, Result.andThen_ok, invoke]
    simpa using hcall (xs.map a.eval) w
  unfold Oper.wp
  rw [hex, Oper.upon_enter]
  refine Calls.mono (hrun w (calleeGh g cl) (xs.map a.eval) hl (by simp [s1]) hent) fun e w' he => ?_
  cases e with
  | returned v =>
    obtain ⟨gh', hres, _, hmv⟩ := he
    simp only
    -- the caller's ghost
    have hmem : ∀ b, b < w.heap.size → gh'.ow b = (calleeGh g cl).ow b ∧ w'.heap[b]? = w.heap[b]? := fun b hb => hmv.keep b hb (htag b)
    have main : ∀ (r0 : Root), ¬ σ.ex r0 → Core E σ a.tmps w' (backGh w.heap.size r0 g gh') ∧ Move w g w' (backGh w.heap.size r0 g gh') ∧ SVRep w' (backGh w.heap.size r0 g gh') σ.dirty r0 0 an.res v := by
      intro r0 hr0
      have how : ∀ b, b < w.heap.size → (backGh w.heap.size r0 g gh').ow b = g.ow b := fun b hb => by simp only [backGh]; rw [if_pos hb]
      have hhd : ∀ r c p, σ.ex r → (backGh w.heap.size r0 g gh').hd ⟨r, c, p⟩ = g.hd ⟨r, c, p⟩ := fun r c p hr => by
        simp only [backGh]
        rw [if_neg]
        rintro rfl
        exact hr0 hr
      have hst : ∀ r c, σ.ex r → Still w w' g (backGh w.heap.size r0 g gh') r c := fun r c hr => ⟨fun b p hb h => ⟨(how b hb).trans h, (hmem b hb).2⟩, fun p => hhd r c p hr⟩
      refine ⟨?_, ⟨hmv.size, rfl, fun b hb _ => ⟨how b hb, (hmem b hb).2⟩, fun _ _ => rfl, fun b k hb _ h => ⟨(how b hb).trans h, fun cs el fr hh => ⟨cs, (hmem b hb).2.trans hh, rfl, fun _ _ => rfl⟩⟩, hmv.env⟩, ?_⟩
      · exact Core.step hc ⟨Nat.le_refl _, fun b hb h => ⟨(how b hb).trans h, (hmem b hb).2⟩, fun r c hr hd => ⟨hd, fun p => hhd r c p hr⟩, fun _ _ => rfl⟩
          (fun n => .inl ⟨rfl, rfl, rfl, fun c => hst _ c (σ.rt_ex n)⟩) (fun k kd h => .inl ⟨h, fun c => ⟨rfl, hst _ c (.inr (.inl (by rw [h]; simp)))⟩, fun hb h => ⟨(how _ hb).trans h, (hmem _ hb).2⟩⟩) (fun k c => .inl rfl)
          (fun k es h => .inl ⟨h, fun hb h => ⟨(how _ hb).trans h, (hmem _ hb).2⟩⟩) (fun _ h => h) (fun b hb => ⟨how b (Nat.lt_of_lt_of_le hb hc.size), (hmem b (Nat.lt_of_lt_of_le hb hc.size)).2⟩) hmv.size
      · refine hres.mapData hdata fun c t u hn hr => ?_
        have hlim2 : gh'.lim ≤ (backGh w.heap.size r0 g gh').lim := by rw [hmv.lim]; exact Nat.le_refl _
        have hown : ∀ b a', a'.under ⟨.ret, c, []⟩ → gh'.ow b = .own a' → (backGh w.heap.size r0 g gh').ow b = .own { a' with root := r0 } := by
          intro b a' ha hb
          simp only [backGh]
          rw [if_neg]
          · rw [hb]
            simp only
            rw [if_pos ha.1]
          · intro hlt
            have := (hmem b hlt).1
            rw [hb] at this
            rcases htag b with q | q <;> rw [q] at this <;> cases this
        have hh : ∀ a', a'.under ⟨.ret, c, []⟩ → (backGh w.heap.size r0 g gh').hd { a' with root := r0 } = gh'.hd a' := by
          intro a' ha
          simp only [backGh, if_true]
          congr 1
          cases a'
          have := ha.1
          simp only at this
          simp [this]
        rcases hcl with hcl | hnf
        · subst hcl
          refine hr.map (fun a' => { a' with root := r0 }) hlim2 (fun _ _ _ => rfl) (fun b hb h => ⟨?_, rfl⟩) (fun b a' hb ha h => ⟨hown b a' ha h, rfl⟩) (fun a' ha => hh a' ha)
          simp only [backGh]
          by_cases hlt : b < w.heap.size
          · rw [if_pos hlt]
            have := (hmem b hlt).1
            rw [h] at this
            simp only [calleeGh] at this
            cases hg : g.ow b with
            | frozen => rfl
            | own a => rw [hg] at this; simp at this
            | box k => rw [hg] at this; simp at this
            | other => rw [hg] at this; simp at this
          · rw [if_neg hlt, h]
        · exact hr.mapN (fun a' => { a' with root := r0 }) (hn hnf) hlim2 (fun _ _ _ => rfl) (fun b a' hb ha h => ⟨hown b a' ha h, rfl⟩) (fun a' ha => hh a' ha)
    cases hd : o.dst with
    | none =>
      obtain ⟨e1, _⟩ := h3 hd
      obtain ⟨m1, m2, _⟩ := main .ret (fun h => h)
      refine hK _ w' _ ?_ m2 hs rfl
      rw [e1]
      exact m1
    | some d =>
      obtain ⟨hn, e1, _⟩ := h2 d hd
      obtain ⟨m1, m2, m3⟩ := main (.new d) (fun h => by simp [Sg.ex, hn] at h)
      refine hK _ w' _ ?_ m2 (by simpa [Act.put] using hs) rfl
      rw [e1]
      exact m1.put hn m3 (by rw [SV.data_roots hdata]; simp) (SV.data_flat hdata) (.inl (by rw [hs]; exact dst_lt hN hd))
  | panicked c => exact he.elim
  | outgrown => exact he.elim
end
end Vx
