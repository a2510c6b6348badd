import Derived.Test.YtjfpbaknhaikmaaV29c
namespace Vx
open Go Classical
set_option linter.unusedSimpArgs false
set_option linter.unusedVariables false

/-- From the scratch root into cells of an owned slice's row: those of `ts` that own. -/
def pathRen (r : Root) (c : Nat) (h : Hop) (q : List Hop) (ts : List T) : Ren where
  S a := a.root = .ret ∧ ∃ x, ts[a.c]? = some x ∧ x.isOwn = true
  D a := a.root = r ∧ a.c = c ∧ ∃ s j x, a.path = s ++ { h with c := h.c + j } :: q ∧ ts[j]? = some x ∧ x.isOwn = true
  f a := ⟨r, c, a.path ++ { h with c := h.c + a.c } :: q⟩
  fi a := ⟨.ret, (a.path.getD (a.path.length - q.length - 1) default).c - h.c, a.path.take (a.path.length - q.length - 1)⟩
  inv := by
    rintro ⟨r0, j, p⟩ ⟨h1, x, h2, h3⟩
    simp only at h1 h2
    subst h1
    refine ⟨⟨rfl, rfl, p, j, x, rfl, h2, h3⟩, ?_⟩
    simp only [List.length_append, List.length_cons, CA.mk.injEq, true_and]
    rw [show p.length + (q.length + 1) - q.length - 1 = p.length by omega]
    constructor
    · simp [List.getD]
    · simp
  hop := by
    rintro ⟨r0, j, p⟩ h1 x
    exact ⟨h1, rfl⟩

theorem Rep.own_inv {w : World} {g : Gh} {a : CA} {sz : Nat} {xs : List (List T)} {v : Value} (h : Rep w g a (.sl true sz xs) v) (hne : xs ≠ []) : ∃ (b off cap : Nat) (cs : Array Value) (el : TypeId) (vs : Nat → Nat → Value), v = .slice (some ⟨b, off, none⟩) xs.length cap ∧
    g.hd a = .slice (some ⟨b, off, none⟩) xs.length cap ∧ w.heap[b]? = some (.cells cs el (0, 0)) ∧ g.ow b = .own a ∧ cs.size = off + cap * sz ∧ xs.length ≤ cap ∧ xs.length ≤ g.lim ∧ (∀ row ∈ xs, row.length = sz) ∧
    (∀ i c, i < xs.length → c < sz → cs[off + i * sz + c]? = some (vs i c)) ∧ ∀ (i : Nat) (row : List T) (c : Nat) (t : T), xs[i]? = some row → row[c]? = some t → Rep w g (a.hop ⟨i, sz, c⟩) t (vs i c) := by
  cases h with
  | fro h => exact h.noOwn.elim
  | onil => exact absurd rfl hne
  | own vs hd hh ho hsize hcap hlim hrow hcell hrec => exact ⟨_, _, _, _, _, vs, rfl, hd, hh, ho, hsize, hcap, hlim, hrow, hcell, hrec⟩
theorem Rep.ren2 {w w' : World} {g : Gh} {R : Ren} {p : CA} {t : T} {v : Value} (h : Rep w g p t v) (hf : ∀ b, b < w.heap.size → g.ow b = .frozen → w'.heap[b]? = w.heap[b]?)
    (hm : ∀ b a', b < w.heap.size → a'.under p → g.ow b = .own a' → w'.heap[b]? = w.heap[b]?) (hp : R.S p) : Rep w' (g.ren R) (R.f p) t v :=
  Rep.map (w' := w') (g' := g.ren R) R.f h (Nat.le_refl _) (fun a' ha s => (R.hop a' (R.under ha hp) s).2)
    (fun b hlt hb => ⟨Gh.ren_fz hb, hf b hlt hb⟩) (fun b a' hlt ha hb => ⟨by simp [Gh.ren, hb, R.under ha hp], hm b a' hlt ha hb⟩)
    (fun a' ha => by
      obtain ⟨h1, h2⟩ := R.inv a' (R.under ha hp)
      show (if R.D (R.f a') then g.hd (R.fi (R.f a')) else g.hd (R.f a')) = g.hd a'
      rw [if_pos h1, h2])

theorem splice_get {cs : Array Value} {vs : Nat → Value} {base n : Nat} (hle : base + n ≤ cs.size) (i : Nat) :
    ((cs.toList.take base ++ (List.range n).map vs ++ cs.toList.drop (base + n)).toArray)[i]? = if base ≤ i ∧ i < base + n then some (vs (i - base)) else cs[i]? := by
  simp only [List.getElem?_toArray]
  have hl1 : (cs.toList.take base).length = base := by simp; omega
  rw [List.append_assoc, List.getElem?_append, hl1]
  by_cases h1 : i < base
  · rw [if_pos h1, if_neg (by omega), List.getElem?_take, if_pos h1]
    simp
  · rw [if_neg h1, List.getElem?_append]
    simp only [List.length_map, List.length_range]
    by_cases h2 : i - base < n
    · rw [if_pos h2, if_pos (by omega)]
      simp [h2]
    · rw [if_neg h2, if_neg (by omega), List.getElem?_drop]
      simp only [Array.getElem?_toList]
      congr 1
      omega
theorem Core.dirtier {E : Env} {σ : Sg} {tmps : Array Value} {w : World} {g : Gh} (hc : Core E σ tmps w g) (d' : Dirt) (h : ∀ r c, d' r c = false → σ.dirty r c = false) : Core E { σ with dirty := d' } tmps w g := by
  have hex : ∀ r, σ.ex r → Sg.ex { σ with dirty := d' } r := fun r hr => by cases r <;> exact hr
  refine Core.step hc ⟨Nat.le_refl _, fun _ _ h => ⟨h, rfl⟩, fun r c _ hd => ⟨h r c hd, fun _ => rfl⟩, fun _ _ => rfl⟩ (fun n => .inl ⟨rfl, rfl, rfl, fun c => Still.refl _ _ _ _⟩)
    (fun k kd h => .inl ⟨h, fun c => ⟨rfl, Still.refl _ _ _ _⟩, fun _ h => ⟨h, rfl⟩⟩) (fun k c => .inl rfl) (fun k es h => .inl ⟨h, fun _ h => ⟨h, rfl⟩⟩) hex (fun b _ => ⟨rfl, rfl⟩) (Nat.le_refl _)

theorem TkL.place {σ : Sg} {l l' : List C} {us : List Upd} (h : TkL σ l l' us) : ∀ (τ : Sg), (∀ r c t, Upd.hole r c ∈ us → PlaceIs σ r c t → PlaceIs τ r c t) → distinct (keysOf us) = true → ∀ {r : Root} {c : Nat} {t : T}, PlaceIs τ r c t → Key.place r c ∉ keysOf us → PlaceIs (τ.upds us) r c t := by
  induction h with
  | nil => intro τ _ _ r c t hp _; exact hp
  | keep h ih => exact ih
  | @take r0 c0 t0 l l' us hp0 ht h ih =>
    intro τ hpl hdi r c t hp hk
    rw [distinct_iff] at hdi
    simp only [keysOf, Upd.key, List.singleton_append, List.nodup_cons] at hdi
    simp only [keysOf, Upd.key, List.singleton_append, List.mem_cons, not_or] at hk
    have hp1 := hpl r0 c0 t0 (by simp) hp0
    exact ih (τ.upd (.set r0 c0 (t0.put [] .top))) (fun r' c' t' hm hp' => hp1.hole (hpl r' c' t' (by simp [hm]) hp') (by
      rintro ⟨rfl, rfl⟩
      exact hdi.1 (keysOf_mem hm (by simp [Upd.key])))) ((distinct_iff _).2 hdi.2) (hp1.hole hp (by
      rintro ⟨rfl, rfl⟩
      exact hk.1 rfl)) hk.2

section
variable {E : Env} {N : Nat} {o : Oper} {σ : Sg}
/-- Cells written into a row of an owned slice. -/
theorem Core.storePath {tmps : Array Value} {w : World} {g : Gh} (hc : Core E σ tmps w g) {r : Root} {c : Nat} {t : T} {h : Hop} {q : List Hop} {xs : List (List T)} {row : List T} (hp : PlaceIs σ r c t) (hy : t.at q = some (.sl true h.sz xs))
    (hrow : xs[h.i]? = some row) {ts : List T} (hlen : h.c + ts.length ≤ row.length) {vs : Nat → Value} (hts : ∀ j x, ts[j]? = some x → Rep w g ⟨.ret, j, []⟩ x (vs j)) :
    ∃ b off n cap cs el, g.hd ⟨r, c, q⟩ = .slice (some ⟨b, off, none⟩) n cap ∧ w.heap[b]? = some (.cells cs el (0, 0)) ∧ off + h.i * h.sz + h.c + ts.length ≤ cs.size ∧
      ∀ (d' : Dirt), (∀ r' c', d' r' c' = false → σ.dirty r' c' = false) → (ts.any T.isOwn = true → d' r c = true) → ∀ cs', cs' = (cs.toList.take (off + h.i * h.sz + h.c) ++ (List.range ts.length).map vs ++ cs.toList.drop (off + h.i * h.sz + h.c + ts.length)).toArray →
        Core E ({ σ with dirty := d' }.upd (.set r c (putCells t h q ts))) tmps (w.setRow b cs') (g.ren (pathRen r c h q ts)) ∧ Move w g (w.setRow b cs') (g.ren (pathRen r c h q ts)) := by
  obtain ⟨u0, hu0⟩ := hp.rep hc
  obtain ⟨uy, huy, _⟩ := hu0.at hy
  rw [CA.go_mk] at huy
  have hne : xs ≠ [] := by rintro rfl; simp at hrow
  obtain ⟨b, off, cap, cs, el, vs0, _, hhd, hh, ho, hsize, hcap, hlim, hrw, hcell, hrec⟩ := huy.own_inv hne
  · have hi := lt_of_getElem? hrow
    have hrl : row.length = h.sz := hrw row (List.mem_of_getElem? hrow)
    have hbound : off + h.i * h.sz + h.c + ts.length ≤ cs.size := by
      have h1 : (h.i + 1) * h.sz ≤ cap * h.sz := Nat.mul_le_mul_right _ (by omega)
      rw [Nat.add_mul] at h1
      omega
    refine ⟨b, off, _, cap, cs, el, hhd, hh, hbound, fun d' hd1 hd2 cs' hcs => ?_⟩
    have hget : ∀ i, cs'[i]? = if off + h.i * h.sz + h.c ≤ i ∧ i < off + h.i * h.sz + h.c + ts.length then some (vs (i - (off + h.i * h.sz + h.c))) else cs[i]? := fun i => by rw [hcs]; exact splice_get (vs := vs) hbound i
    have hnb : ∀ b', g.ow b' ≠ .own ⟨r, c, q⟩ → (w.setRow b cs').heap[b']? = w.heap[b']? := fun b' hb => setRow_other w _ b' _ (fun e => hb (e ▸ ho))
    have hS : ∀ r' j p, σ.ex r' → ¬ (pathRen r c h q ts).S ⟨r', j, p⟩ := by
      rintro r' j p hr ⟨h1, _⟩
      simp only at h1
      subst h1
      exact hr
    have hrne : r ≠ .ret := hp.nret
    have hDu : ∀ a, (pathRen r c h q ts).D a → a.under ⟨r, c, q⟩ ∧ a ≠ ⟨r, c, q⟩ ∧ ts.any T.isOwn = true := by
      rintro a ⟨h1, h2, s, j, x, h3, h4, h5⟩
      refine ⟨⟨h1, h2, s ++ [{ h with c := h.c + j }], by rw [h3]; simp⟩, ?_, ?_⟩
      · rintro rfl
        have := congrArg List.length h3
        simp at this
        omega
      · rw [List.any_eq_true]
        exact ⟨x, List.mem_of_getElem? h4, h5⟩
    have hkeep : Keeps w (w.setRow b cs') g (g.ren (pathRen r c h q ts)) d' d' σ.ex := by
      refine ⟨Nat.le_refl _, fun b' hb hf => ⟨Gh.ren_fz hf, hnb b' (by rw [hf]; intro e; cases e)⟩, fun r' j hr hd => ⟨hd, fun p => Gh.ren_hd fun hD => ?_⟩, fun _ _ => rfl⟩
      obtain ⟨e1, _, e3⟩ := hDu _ hD
      have er : r' = r := e1.1
      have ec : j = c := e1.2.1
      subst er ec
      rw [hd2 e3] at hd
      cases hd
    have hex' : ∀ r, σ.ex r → Sg.ex { σ with dirty := d' } r := fun r hr => by cases r <;> exact hr
    have hkeep' : Keeps w (w.setRow b cs') g (g.ren (pathRen r c h q ts)) d' d' (Sg.ex { σ with dirty := d' }) := ⟨hkeep.lim, hkeep.fz, fun r' c' hr => hkeep.ref r' c' (by cases r' <;> exact hr), fun k hr => hkeep.bl k hr⟩
    have hyrep : ∀ u, Rep w g ⟨r, c, []⟩ t u → Rep (w.setRow b cs') (g.ren (pathRen r c h q ts)) ⟨r, c, []⟩ (putCells t h q ts) u := by
      intro u hu
      rw [putCells_eq ts t _ h hy ⟨xs, row, rfl, hrow, hlen⟩, setCells_eq ts h xs row hrow hlen]
      refine Rep.put hu q hy ⟨Nat.le_refl _, fun b' hb hf => ⟨Gh.ren_fz hf, hnb b' (by rw [hf]; intro e; cases e)⟩, fun b' a' hb ha hn ho' => ⟨?_, hnb b' ?_⟩, fun a' ha hn => Gh.ren_hd fun hD => ?_⟩ ?_
      · rw [CA.go_mk] at hn
        simp only [Gh.ren, ho']
        rw [if_neg (by
          rintro ⟨e, _⟩
          rw [ha.1] at e
          exact hrne e), if_neg (fun hD => hn (hDu _ hD).1)]
      · rw [ho']
        intro e
        cases e
        rw [CA.go_mk] at hn
        exact hn (CA.under_refl _)
      · rw [CA.go_mk] at hn
        exact hn (hDu _ hD).1
      · intro u2 hu2
        rw [CA.go_mk] at hu2 ⊢
        obtain ⟨b1, off1, cap1, cs1, el1, vs1, hv1, hhd1, hh1, ho1, hsize1, hcap1, hlim1, hrw1, hcell1, hrec1⟩ := hu2.own_inv hne
        · rw [hv1]
          rw [hhd] at hhd1
          cases hhd1
          rw [hh] at hh1
          cases hh1
          have hlenx : (xs.set h.i (row.take h.c ++ ts ++ row.drop (h.c + ts.length))).length = xs.length := List.length_set
          have hsz' : cs'.size = cs.size := by
            rw [hcs]; simp; omega
          have hnl : (row.take h.c ++ ts ++ row.drop (h.c + ts.length)).length = h.sz := by simp; omega
          have idx : ∀ i c', c' < h.sz → (off + h.i * h.sz + h.c ≤ off + i * h.sz + c' ∧ off + i * h.sz + c' < off + h.i * h.sz + h.c + ts.length ↔ i = h.i ∧ h.c ≤ c' ∧ c' < h.c + ts.length) := by
            intro i c' hc'
            constructor
            · rintro ⟨q1, q2⟩
              have hlt2 : h.c + (ts.length - 1) < h.sz ∨ ts.length = 0 := by omega
              have d1 : (i * h.sz + c') / h.sz = i := div_row _ _ _ hc'
              have : i = h.i := by
                have hb1 : h.i * h.sz ≤ i * h.sz + c' := by omega
                have hb2 : i * h.sz + c' < (h.i + 1) * h.sz := by rw [Nat.add_mul]; omega
                have hpos : 0 < h.sz := by omega
                have e1 : h.i ≤ (i * h.sz + c') / h.sz := (Nat.le_div_iff_mul_le hpos).2 hb1
                have e2 : (i * h.sz + c') / h.sz < h.i + 1 := (Nat.div_lt_iff_lt_mul hpos).2 hb2
                omega
              subst this
              exact ⟨rfl, by omega, by omega⟩
            · rintro ⟨rfl, q1, q2⟩
              omega
          have other : ∀ (i : Nat) (rr : List T) (c' : Nat) (x : T), xs[i]? = some rr → rr[c']? = some x → ¬ (i = h.i ∧ h.c ≤ c' ∧ c' < h.c + ts.length) → Rep (w.setRow b cs') (g.ren (pathRen r c h q ts)) ((⟨r, c, q⟩ : CA).hop ⟨i, h.sz, c'⟩) x (vs1 i c') := by
            intro i rr c' x h1 h2 hno
            have notD : ∀ a', a'.under ((⟨r, c, q⟩ : CA).hop ⟨i, h.sz, c'⟩) → ¬ (pathRen r c h q ts).D a' := by
              rintro a' ha ⟨e1, e2, s, j, x', e3, e4, e5⟩
              have hu : a'.under ((⟨r, c, q⟩ : CA).hop { h with c := h.c + j }) := ⟨e1, e2, s, e3⟩
              have := CA.hop_apart ha hu
              have q1 := congrArg Hop.i this
              have q2 := congrArg Hop.c this
              simp only at q1 q2
              have := lt_of_getElem? e4
              exact hno ⟨q1.symm, by omega, by omega⟩
            refine (hrec1 i rr c' x h1 h2).frame (Nat.le_refl _) (fun b' hb hf => ⟨Gh.ren_fz hf, hnb b' (by rw [hf]; intro e; cases e)⟩) (fun b' a' hb ha ho' => ⟨?_, hnb b' ?_⟩) (fun a' ha => Gh.ren_hd (notD a' ha))
            · simp only [Gh.ren, ho']
              rw [if_neg (by
                rintro ⟨e, _⟩
                exact hrne (ha.1.symm.trans e)), if_neg (notD a' ha)]
            · rw [ho']
              intro e
              cases e
              exact CA.not_under_hop _ _ ha
          have key := Rep.own (w := w.setRow b cs') (g := g.ren (pathRen r c h q ts)) (a := ⟨r, c, q⟩) (b := b) (off := off) (cap := cap) (sz := h.sz) (xs := xs.set h.i (row.take h.c ++ ts ++ row.drop (h.c + ts.length))) (cs := cs') (el := el)
            (fun i c' => if i = h.i ∧ h.c ≤ c' ∧ c' < h.c + ts.length then vs (c' - h.c) else vs1 i c')
            (by rw [Gh.ren_hd (fun hD => (hDu _ hD).2.1 rfl), hhd, hlenx]) (setRow_heap w _ _ _ _ _ hh) (by
              simp only [Gh.ren, ho]
              rw [if_neg (fun hs => hrne hs.1), if_neg (fun hD => (hDu _ hD).2.1 rfl)]) (by rw [hsz']; exact hsize) (by rw [hlenx]; exact hcap) (by rw [hlenx]; exact hlim)
            (fun rr hr => by
              rcases List.mem_or_eq_of_mem_set hr with k | k
              · exact hrw rr k
              · rw [k]; exact hnl)
            (fun i c' h1 h2 => by
              rw [hlenx] at h1
              rw [hget]
              by_cases k : i = h.i ∧ h.c ≤ c' ∧ c' < h.c + ts.length
              · rw [if_pos ((idx i c' h2).2 k), if_pos k]
                obtain ⟨rfl, k1, k2⟩ := k
                congr 2
                omega
              · rw [if_neg (fun e => k ((idx i c' h2).1 e)), if_neg k]
                exact hcell1 i c' h1 h2)
            (fun i rr c' x h1 h2 => by
              by_cases ki : i = h.i
              · subst ki
                rw [List.getElem?_set_self hi] at h1
                cases h1
                by_cases k : h.c ≤ c' ∧ c' < h.c + ts.length
                · rw [if_pos ⟨rfl, k⟩]
                  rw [List.append_assoc, List.getElem?_append_right (by simp; omega), List.getElem?_append_left (by simp; omega)] at h2
                  have hmin : (row.take h.c).length = h.c := by simp; omega
                  rw [hmin] at h2
                  have hr := hts (c' - h.c) x h2
                  by_cases hown : x.isOwn = true
                  · have := hr.ren2 (w' := w.setRow b cs') (R := pathRen r c h q ts) (fun b' _ hf => hnb b' (by rw [hf]; intro e; cases e)) (fun b' a' _ ha hf => hnb b' (by
                      rw [hf]
                      intro e
                      cases e
                      exact hrne ha.1)) ⟨rfl, x, h2, hown⟩
                    simp only [pathRen, List.nil_append] at this
                    rw [show h.c + (c' - h.c) = c' by omega] at this
                    exact this
                  · refine .fro ((hr.isFro fun sz' xs' e => ?_).frame (Nat.le_refl _) fun b' hb hf => ⟨Gh.ren_fz hf, hnb b' (by rw [hf]; intro e; cases e)⟩)
                    subst e
                    exact hown rfl
                · rw [if_neg (fun e => k e.2)]
                  have h2' : row[c']? = some x := by
                    rw [List.append_assoc] at h2
                    have hmin : (row.take h.c).length = h.c := by simp; omega
                    by_cases k1 : c' < h.c
                    · rw [List.getElem?_append_left (by omega), List.getElem?_take, if_pos k1] at h2
                      exact h2
                    · rw [List.getElem?_append_right (by omega), hmin, List.getElem?_append_right (by omega), List.getElem?_drop] at h2
                      rw [← h2]
                      congr 1
                      omega
                  exact other h.i row c' x hrow h2' (fun e => k e.2)
              · rw [List.getElem?_set_ne (fun e => ki e.symm)] at h1
                rw [if_neg (fun e => ki e.1)]
                exact other i rr c' x h1 h2 (fun e => ki e.1))
          rw [hlenx] at key
          exact key
    refine ⟨(hc.dirtier d' hd1).setPlace (w' := w.setRow b cs') (g' := g.ren (pathRen r c h q ts)) ⟨?_, hp.slot, hp.obj, hp.nret⟩ hkeep' (fun r' c' hr hne' => ?_) (fun b' k hb hbx => ⟨Gh.ren_box hbx, hnb b' (by rw [hbx]; intro e; cases e)⟩) (fun b' hb => ⟨by rw [(hc.glob b' hb).1, Gh.ren_other (hc.glob b' hb).1], hnb b' (by rw [(hc.glob b' hb).1]; intro e; cases e)⟩) (by simp) hyrep, ?_⟩
    · exact hex' r hp.ex
    · have hr' : σ.ex r' := by cases r' <;> exact hr
      refine ⟨fun b' p hb ho' => ⟨?_, hnb b' ?_⟩, fun p => Gh.ren_hd fun hD => hne' ⟨(hDu _ hD).1.1, (hDu _ hD).1.2.1⟩⟩
      · simp only [Gh.ren, ho']
        rw [if_neg (hS r' c' p hr'), if_neg (fun hD => hne' ⟨(hDu _ hD).1.1, (hDu _ hD).1.2.1⟩)]
      · rw [ho']
        intro e
        cases e
        exact hne' ⟨rfl, rfl⟩
    · refine ⟨by simp, rfl, fun b' hb hf => ⟨?_, hnb b' (by rcases hf with hf | hf <;> rw [hf] <;> intro e <;> cases e)⟩, fun _ _ => rfl, fun b' k hb _ hbx => ⟨Gh.ren_box hbx, fun cs2 el2 fr2 hh2 => ⟨cs2, (hnb b' (by rw [hbx]; intro e; cases e)).trans hh2, rfl, fun _ _ => rfl⟩⟩, rfl, rfl, rfl⟩
      rcases hf with hf | hf
      · rw [hf, Gh.ren_fz hf]
      · rw [hf, Gh.ren_other hf]
end
end Vx
