import Derived.Test.YtjfpbaknhaikmaaV21
namespace Vx
open Go Classical
set_option linter.unusedSimpArgs false
set_option linter.unusedVariables false

theorem Core.heap {E : Env} {σ : Sg} {tmps : Array Value} {w w' : World} {g : Gh} (hc : Core E σ tmps w g) (h : w'.heap = w.heap) : Core E σ tmps w' g :=
  Core.step hc ⟨Nat.le_refl _, fun b _ h' => ⟨h', by rw [h]⟩, fun r c _ h' => ⟨h', fun _ => rfl⟩, fun _ _ => rfl⟩
    (fun n => .inl ⟨rfl, rfl, rfl, fun c => ⟨fun b p _ h' => ⟨h', by rw [h]⟩, fun _ => rfl⟩⟩)
    (fun k kd h' => .inl ⟨h', fun c => ⟨rfl, ⟨fun b p _ h' => ⟨h', by rw [h]⟩, fun _ => rfl⟩⟩, fun _ h' => ⟨h', by rw [h]⟩⟩) (fun k c => .inl rfl)
    (fun k es h' => .inl ⟨h', fun _ h' => ⟨h', by rw [h]⟩⟩) (fun _ h => h) (fun b _ => ⟨rfl, by rw [h]⟩) (by rw [h]; exact Nat.le_refl _)
theorem Move.heap {w w' w'' : World} {g g' : Gh} (h : w'.heap = w.heap) (he : w'.os = w.os ∧ w'.tape = w.tape ∧ w'.output = w.output) (m : Move w' g w'' g') : Move w g w'' g' :=
  ⟨by rw [← h]; exact m.size, m.lim, fun b hb ho => by rw [← h]; exact m.keep b (by rw [h]; exact hb) ho, m.bl, fun b k hb hk ho => by
    obtain ⟨e1, e2⟩ := m.box b k (by rw [h]; exact hb) hk ho
    exact ⟨e1, fun cs el fr hh => e2 cs el fr (by rw [h]; exact hh)⟩, m.env.1.trans he.1, m.env.2.1.trans he.2.1, m.env.2.2.trans he.2.2⟩

theorem indepFrom_spec {ops : List Oper} {j : Nat} {x : List Loc × List Loc} : ∀ {l : List (List Loc × List Loc)} {i : Nat}, l.length = i + 1 ∨ l = [] → indepFrom ops j x i l = true → ∀ k y, l[k]? = some y →
    afterB ops ops.length j (i - k) = false → meets y.2 x.1 = false ∧ meets y.2 x.2 = false ∧ meets x.2 y.2 = false ∧ meets x.2 y.1 = false
  | [], i, _, _, k, y, hk, _ => by simp at hk
  | z :: l, i, hl, h, k, y, hk, ha => by
    simp only [indepFrom, Bool.and_eq_true, Bool.or_eq_true, Bool.not_eq_true'] at h
    cases k with
    | zero =>
      simp at hk
      subst hk
      rcases h.1 with h1 | h1
      · simpa [Bool.or_eq_false_iff, and_assoc] using h1
      · rw [Nat.sub_zero] at ha
        rw [ha] at h1; cases h1
    | succ k =>
      refine indepFrom_spec (l := l) (i := i - 1) ?_ h.2 k y (by simpa using hk) (by rw [← ha]; congr 1; omega)
      rcases hl with hl | hl
      · cases l with
        | nil => exact .inr rfl
        | cons _ l => left; simp at hl ⊢; omega
      · cases hl
theorem indepAll_spec {ops : List Oper} : ∀ {M : List (List Loc × List Loc)}, indepAll ops M = true → ∀ i j y x, i < j → M.reverse[i]? = some y → M.reverse[j]? = some x → afterB ops ops.length j i = false →
    meets y.2 x.1 = false ∧ meets y.2 x.2 = false ∧ meets x.2 y.2 = false ∧ meets x.2 y.1 = false
  | [], _, i, j, y, x, _, h, _, _ => by simp at h
  | z :: M, h, i, j, y, x, hij, hi, hj, ha => by
    simp only [indepAll, Bool.and_eq_true] at h
    rw [List.reverse_cons] at hi hj
    have hjl := lt_of_getElem? hj
    simp at hjl
    have hil : i < M.reverse.length := by simp; omega
    rw [List.getElem?_append_left hil] at hi
    by_cases hjm : j < M.length
    · rw [List.getElem?_append_left (by simpa using hjm)] at hj
      exact indepAll_spec h.2 i j y x hij hi hj ha
    · have hje : j = M.length := by omega
      subst hje
      rw [List.getElem?_append_right (by simp)] at hj
      simp at hj
      subst hj
      have hil' : i < M.length := by simpa using hil
      have hk : M[M.length - 1 - i]? = some y := by
        rw [List.getElem?_reverse hil'] at hi
        exact hi
      refine indepFrom_spec (i := M.length - 1) (l := M) (by cases M with | nil => exact .inr rfl | cons _ M => left; simp) h.1 (M.length - 1 - i) y hk ?_
      rw [show M.length - 1 - (M.length - 1 - i) = i by omega]
      exact ha
theorem edgesDown_spec : ∀ {l : List Oper} {k : Nat}, edgesDown k l = true → ∀ i o, l[i]? = some o → ∀ e ∈ o.after, Region.binds .any e = true → e.on < k + i
  | [], k, _, i, o, h => by simp at h
  | o' :: l, k, hd, i, o, h => by
    simp only [edgesDown, Bool.and_eq_true, List.all_eq_true, Bool.or_eq_true, Bool.not_eq_true', decide_eq_true_eq] at hd
    intro e he hb
    cases i with
    | zero =>
      simp at h
      subst h
      rcases hd.1 e (by simpa using he) with q | q
      · rw [hb] at q; cases q
      · omega
    | succ i =>
      have := edgesDown_spec hd.2 i o (by simpa using h) e he hb
      omega

/-- A region. -/
theorem region_wp {E : Env} {N : Nat} {R : Rel} {ops : Array Oper} {id : Nat} {draw : Bool} {Q : Exit → Act → World → Prop} (hmix : E.P.follows .mixedOrders = true)
    (hS : ∀ (i : Nat) (o : Oper) (an : Ans) (us : List Upd) (rd : List Loc), ops[i]? = some o → Sound E N ops Q ⟨i, ostep E.P R ops.toList o an, us, rd⟩)
    {s : St} {K : St → Prop} (h : aops E.P R ops.toList ops.toList s [] fun s l => (draw = true → indep ops.toList l = true) ∧ K s) {a : Act} {w : World} {g : Gh}
    (hc : Core E s.sg a.tmps w g) (hs : a.tmps.size = N) (hl : LIM ≤ g.lim)
    (hK : ∀ s' a' w' g', K s' → Core E s'.sg a'.tmps w' g' → Move w g w' g' → a'.tmps.size = N → a'.defers = a.defers → Q .normal a' w') : (Code.region id ops draw).wp E.P Q a w := by
  obtain ⟨T, hg, hi, hT, s', hs', hd, hk⟩ := aops_steps 0 h
  have hlen : T.length = ops.size := by
    have := congrArg List.length hi
    simpa using this
  have hidx : ∀ (j : Nat) (t : Task), T[j]? = some t → t.i = j := by
    intro j t hj
    have : (T.map (·.i))[j]? = some t.i := by simp [hj]
    have hlt := lt_of_getElem? hj
    rw [hi] at this
    simp only [Array.length_toList] at this
    rw [List.getElem?_range'] at this
    · simp only [Option.some.injEq] at this; omega
    · omega
  have hsound : ∀ t ∈ T, Sound E N ops Q t := by
    intro t ht
    obtain ⟨o, an, h1, _, h3⟩ := hT t ht
    have := hS t.i o an t.us t.rd (by simpa using h1)
    rw [← h3] at this
    exact this
  have hend : ∀ (a' : Act) (w' : World) (g' : Gh), Core E (after s.sg T) a'.tmps w' g' → Move w g w' g' → a'.tmps.size = N → a'.defers = a.defers → Q .normal a' w' := by
    intro a' w' g' c m z d
    rw [← hs'] at c
    exact hK s' a' w' g' hk c m z d
  cases draw with
  | false =>
    apply wp_region
    have : List.range ops.size = T.map (·.i) := by rw [hi, List.range_eq_range']; simp
    rw [this]
    exact seq_ok hg hsound hc hs hl hend
  | true =>
    have hin := hd rfl
    simp only [indep, Bool.and_eq_true, List.append_nil] at hin
    obtain ⟨hdn, hall⟩ := hin
    apply wp_region_any hmix
    refine any_ok (N := N) (fun i o ho e he hb => ?_) ops.size (Array.replicate ops.size false) T s.sg a _ g (by simp) (fun i o e hi' => ?_) (by omega) (by rw [hi]; exact List.pairwise_lt_range') (fun i => ?_) hg ?_ hsound (hc.heap rfl) hs hl
      (fun a' w' g' c m z d => hend a' w' g' c (Move.heap (w := w) (w' := { w with drawn := w.drawn + 1 }) rfl ⟨rfl, rfl, rfl⟩ m) z d)
    · have := edgesDown_spec hdn i o (by simpa using ho) e he hb
      omega
    · rcases Nat.lt_or_ge i ops.size with k | k
      · simp [k] at hi'
      · intro ho
        rw [Array.getElem?_eq_none k] at ho
        cases ho
    · constructor
      · rintro ⟨t, ht, rfl⟩
        obtain ⟨j, hj⟩ := List.getElem?_of_mem ht
        have := hidx j t hj
        have hlt := lt_of_getElem? hj
        rw [this]
        simp [show j < ops.size by omega]
      · intro h0
        rcases Nat.lt_or_ge i ops.size with k | k
        · have hlt : i < T.length := by omega
          exact ⟨T[i], List.getElem_mem _, hidx i _ (List.getElem?_eq_getElem hlt)⟩
        · simp [show ¬ i < ops.size by omega] at h0
    · rw [List.pairwise_iff_getElem]
      intro i j hi' hj' hij haf
      have ti : T[i].i = i := hidx i _ (List.getElem?_eq_getElem hi')
      have tj : T[j].i = j := hidx j _ (List.getElem?_eq_getElem hj')
      rw [ti, tj] at haf
      obtain ⟨m1, m2, m3, m4⟩ := indepAll_spec hall i j (T[i].rd, wlocs T[i].us) (T[j].rd, wlocs T[j].us) hij (by simp [hi']) (by simp [hj']) (by simpa using haf)
      exact ⟨meets_wrs m2 m3, meets_wr m4, meets_wr m1⟩
end Vx
