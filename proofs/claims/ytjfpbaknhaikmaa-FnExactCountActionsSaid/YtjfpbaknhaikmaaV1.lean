import Derived.Test.YtjfpbaknhaikmaaV0
namespace Vx
open Go

def CA.go (a : CA) (p : List Hop) : CA := { a with path := p ++ a.path }
theorem CA.go_nil (a : CA) : a.go [] = a := rfl
theorem CA.go_cons (a : CA) (h : Hop) (p : List Hop) : a.go (h :: p) = (a.go p).hop h := rfl
theorem CA.under_go (a : CA) (p : List Hop) : (a.go p).under a := ⟨rfl, rfl, p, rfl⟩

theorem CA.hop_apart {a a' : CA} {h h' : Hop} (k : a'.under (a.hop h')) (k2 : a'.under (a.hop h)) : h = h' := by
  obtain ⟨_, _, s, e⟩ := k
  obtain ⟨_, _, u, f⟩ := k2
  simp only [CA.hop] at e f
  rw [e] at f
  have h1 : (s ++ [h']) ++ a.path = (u ++ [h]) ++ a.path := by simpa using f
  have h2 := List.append_cancel_right h1
  have h3 := congrArg List.getLast? h2
  simp at h3
  exact h3.symm
theorem CA.not_under_hop (a : CA) (h : Hop) : ¬ a.under (a.hop h) := by
  rintro ⟨_, _, s, e⟩
  simp only [CA.hop] at e
  have := congrArg List.length e
  simp at this
  omega

structure Stay (w w' : World) (g g' : Gh) (a : CA) (S : CA → Prop) : Prop where
  lim : g.lim ≤ g'.lim
  fz : ∀ b, b < w.heap.size → g.ow b = .frozen → g'.ow b = .frozen ∧ w'.heap[b]? = w.heap[b]?
  own : ∀ b a', b < w.heap.size → a'.under a → ¬ S a' → g.ow b = .own a' → g'.ow b = .own a' ∧ w'.heap[b]? = w.heap[b]?
  hd : ∀ a', a'.under a → ¬ S a' → g'.hd a' = g.hd a'

theorem Stay.rep {w w' : World} {g g' : Gh} {a : CA} {S : CA → Prop} {t : T} {v : Value} (s : Stay w w' g g' a S) (h : Rep w g a t v) (hS : ∀ a', a'.under a → ¬ S a') :
    Rep w' g' a t v :=
  h.frame s.lim s.fz (fun b a' hl k => s.own b a' hl k (hS a' k)) (fun a' k => s.hd a' k (hS a' k))

/-- One part of an owned slice is replaced, its cell may have changed. -/
theorem Rep.setSub {w w' : World} {g g' : Gh} {a : CA} {t x y : T} {v u' : Value} {h : Hop} (hr : Rep w g a t v) (hs : t.sub h = some x)
    (st : Stay w w' g g' a fun a' => a' = a ∨ a'.under (a.hop h))
    (hhd : g'.hd a = g.hd a)
    (hb : ∀ b off n cap cs el, v = .slice (some ⟨b, off, none⟩) n cap → g.ow b = .own a → w.heap[b]? = some (.cells cs el (0, 0)) → off + h.i * h.sz + h.c < cs.size →
      g'.ow b = .own a ∧ w'.heap[b]? = some (.cells (cs.setIfInBounds (off + h.i * h.sz + h.c) u') el (0, 0)))
    (hy : Rep w' g' (a.hop h) y u') : Rep w' g' a (t.setSub h y) v := by
  cases hr with
  | own vs hd hh ho hsize hcap hlim hrow hcell hrec =>
    rename_i b off cap sz xs cs el
    simp only [T.sub] at hs
    by_cases e : h.sz = sz
    · subst e
      rw [if_pos rfl] at hs
      cases hi : xs[h.i]? with
      | none => rw [hi] at hs; exact absurd hs (by simp)
      | some row =>
        rw [hi] at hs
        simp only [Option.bind_some] at hs
        have hil : h.i < xs.length := by
          rcases Nat.lt_or_ge h.i xs.length with k | k
          · exact k
          · rw [List.getElem?_eq_none k] at hi; exact absurd hi (by simp)
        have hrl : row.length = h.sz := hrow row (List.mem_of_getElem? hi)
        have hcl : h.c < h.sz := by
          rcases Nat.lt_or_ge h.c row.length with k | k
          · omega
          · rw [List.getElem?_eq_none k] at hs; exact absurd hs (by simp)
        have hbound : off + h.i * h.sz + h.c < cs.size := by
          have := hcell h.i h.c hil hcl
          rcases Nat.lt_or_ge (off + h.i * h.sz + h.c) cs.size with k | k
          · exact k
          · rw [Array.getElem?_eq_none k] at this; exact absurd this (by simp)
        obtain ⟨ho', hh'⟩ := hb b off _ cap cs el rfl ho hh hbound
        simp only [T.setSub]
        have hgd : xs.getD h.i [] = row := by simp [List.getD, hi]
        rw [hgd]
        have hlen : (xs.set h.i (row.set h.c y)).length = xs.length := List.length_set
        have key := Rep.own (w := w') (g := g') (a := a) (b := b) (off := off) (cap := cap) (sz := h.sz) (xs := xs.set h.i (row.set h.c y)) (cs := cs.setIfInBounds (off + h.i * h.sz + h.c) u') (el := el)
          (fun i c => if i = h.i ∧ c = h.c then u' else vs i c) (by rw [hhd, hd, hlen]) hh' ho' (by simpa using hsize) (by rw [hlen]; exact hcap) (by rw [hlen]; exact Nat.le_trans hlim st.lim)
          (by
            intro r hr
            rcases List.mem_or_eq_of_mem_set hr with k | k
            · exact hrow r k
            · rw [k]; simpa using hrl)
          (by
            intro i c hi' hc'
            rw [hlen] at hi'
            have h0 := hcell i c hi' hc'
            by_cases k : i = h.i ∧ c = h.c
            · obtain ⟨rfl, rfl⟩ := k
              simp [hbound]
            · rw [if_neg k]
              have hne : off + h.i * h.sz + h.c ≠ off + i * h.sz + c := by
                intro q
                apply k
                have q2 : h.i * h.sz + h.c = i * h.sz + c := by omega
                have hpos : 0 < h.sz := by omega
                have d1 : (h.i * h.sz + h.c) / h.sz = h.i := by
                  rw [Nat.mul_comm, Nat.mul_add_div hpos, Nat.div_eq_of_lt hcl]; rfl
                have d2 : (i * h.sz + c) / h.sz = i := by
                  rw [Nat.mul_comm, Nat.mul_add_div hpos, Nat.div_eq_of_lt hc']; rfl
                have e1 : h.i = i := by rw [← d1, q2, d2]
                subst e1
                exact ⟨rfl, by omega⟩
              rw [Array.getElem?_setIfInBounds_ne hne]
              exact h0)
          (by
            intro i r c u h1 h2
            by_cases ki : i = h.i
            · subst ki
              rw [List.getElem?_set_self hil] at h1
              cases h1
              by_cases kc : c = h.c
              · subst kc
                rw [List.getElem?_set_self (by omega)] at h2
                cases h2
                rw [if_pos ⟨rfl, rfl⟩]
                exact hy
              · rw [List.getElem?_set_ne (fun q => kc q.symm)] at h2
                rw [if_neg (fun q => kc q.2)]
                have base := hrec h.i row c u hi h2
                refine base.frame st.lim st.fz (fun b' a' hl k => st.own b' a' hl (CA.under_of_hop k) ?_) (fun a' k => st.hd a' (CA.under_of_hop k) ?_)
                all_goals
                  rintro (q | q)
                  · subst q; exact CA.not_under_hop _ _ k
                  · have e2 := CA.hop_apart k q
                    apply kc
                    have e3 := congrArg Hop.c e2
                    exact e3.symm
            · rw [List.getElem?_set_ne (fun q => ki q.symm)] at h1
              rw [if_neg (fun q => ki q.1)]
              have base := hrec i r c u h1 h2
              refine base.frame st.lim st.fz (fun b' a' hl k => st.own b' a' hl (CA.under_of_hop k) ?_) (fun a' k => st.hd a' (CA.under_of_hop k) ?_)
              all_goals
                rintro (q | q)
                · subst q; exact CA.not_under_hop _ _ k
                · have e2 := CA.hop_apart k q
                  apply ki
                  have e3 := congrArg Hop.i e2
                  exact e3.symm)
        rw [hlen] at key
        exact key
    · rw [if_neg e] at hs; exact absurd hs (by simp)
  | onil => exact absurd hs (by simp [T.sub])
  | fro h => cases h <;> exact absurd hs (by simp [T.sub])

/-- A part of what is represented is represented. -/
theorem Rep.sub {w : World} {g : Gh} {a : CA} {t x : T} {v : Value} {h : Hop} (hr : Rep w g a t v) (hs : t.sub h = some x) :
    ∃ b off n cap cs el u, v = .slice (some ⟨b, off, none⟩) n cap ∧ v = g.hd a ∧ g.ow b = .own a ∧ w.heap[b]? = some (.cells cs el (0, 0)) ∧ h.i < n ∧
      cs[off + h.i * h.sz + h.c]? = some u ∧ Rep w g (a.hop h) x u := by
  cases hr with
  | own vs hd hh ho hsize hcap hlim hrow hcell hrec =>
    rename_i b off cap sz xs cs el
    simp only [T.sub] at hs
    by_cases e : h.sz = sz
    · subst e
      rw [if_pos rfl] at hs
      cases hi : xs[h.i]? with
      | none => rw [hi] at hs; exact absurd hs (by simp)
      | some row =>
        rw [hi] at hs
        simp only [Option.bind_some] at hs
        have hil : h.i < xs.length := by
          rcases Nat.lt_or_ge h.i xs.length with k | k
          · exact k
          · rw [List.getElem?_eq_none k] at hi; exact absurd hi (by simp)
        have hrl : row.length = h.sz := hrow row (List.mem_of_getElem? hi)
        have hcl : h.c < h.sz := by
          rcases Nat.lt_or_ge h.c row.length with k | k
          · omega
          · rw [List.getElem?_eq_none k] at hs; exact absurd hs (by simp)
        exact ⟨b, off, _, cap, cs, el, vs h.i h.c, rfl, hd.symm, ho, hh, hil, hcell _ _ hil hcl, hrec h.i row h.c x hi hs⟩
    · rw [if_neg e] at hs; exact absurd hs (by simp)
  | onil => exact absurd hs (by simp [T.sub])
  | fro h => cases h <;> exact absurd hs (by simp [T.sub])

theorem Rep.at {w : World} {g : Gh} {a : CA} {t x : T} {v : Value} (hr : Rep w g a t v) : ∀ {p : List Hop}, t.at p = some x → ∃ u, Rep w g (a.go p) x u ∧ (p = [] → u = v)
  | [], h => by
    simp only [T.at, Option.some.injEq] at h
    subst h
    exact ⟨v, hr, fun _ => rfl⟩
  | h :: p, hs => by
    simp only [T.at] at hs
    cases hx : t.at p with
    | none => rw [hx] at hs; exact absurd hs (by simp)
    | some y =>
      rw [hx] at hs
      simp only [Option.bind_some] at hs
      obtain ⟨u, ru, _⟩ := Rep.at hr hx
      obtain ⟨b, off, n, cap, cs, el, u2, _, _, _, _, _, _, ry⟩ := ru.sub hs
      exact ⟨u2, ry, fun q => by cases q⟩

/-- What stands at a path is replaced by something else under the same header. -/
theorem Rep.put {w w' : World} {g g' : Gh} {a : CA} {t : T} {v : Value} (hr : Rep w g a t v) : ∀ (p : List Hop) {x y : T}, t.at p = some x →
    Stay w w' g g' a (fun a' => a'.under (a.go p)) → (∀ u, Rep w g (a.go p) x u → Rep w' g' (a.go p) y u) → Rep w' g' a (t.put p y) v
  | [], x, y, h, _, hx => by
    simp only [T.at, Option.some.injEq] at h
    subst h
    exact hx v hr
  | h :: p, x, y, hs, st, hx => by
    simp only [T.at] at hs
    cases hz : t.at p with
    | none => rw [hz] at hs; exact absurd hs (by simp)
    | some z =>
      rw [hz] at hs
      simp only [Option.bind_some] at hs
      simp only [T.put, hz]
      refine Rep.put hr p hz ⟨st.lim, st.fz, fun b a' hl k n => st.own b a' hl k fun q => n (CA.under_of_hop q), fun a' k n => st.hd a' k fun q => n (CA.under_of_hop q)⟩ ?_
      intro u ru
      have hnot : ¬ (a.go p).under (a.go (h :: p)) := CA.not_under_hop _ _
      obtain ⟨b, off, n, cap, cs, el, u2, hv, hvd, ho, hh, hi, hc, ry⟩ := ru.sub hs
      refine Rep.setSub (u' := u2) ru hs ⟨st.lim, st.fz, fun b a' hl k n => st.own b a' hl (CA.under_trans k (CA.under_go _ _)) fun q => n (.inr q), fun a' k n => st.hd a' (CA.under_trans k (CA.under_go _ _)) fun q => n (.inr q)⟩
        (st.hd _ (CA.under_go _ _) hnot) ?_ (hx u2 ry)
      intro b' off' n' cap' cs' el' hv' ho' hh' hlt
      obtain ⟨e1, e2⟩ := st.own b' _ (lt_of_heap hh') (CA.under_go a p) hnot ho'
      refine ⟨e1, e2.trans ?_⟩
      rw [hh']
      rw [hv] at hv'
      cases hv'
      rw [hh] at hh'
      cases hh'
      congr 2
      apply Array.ext_getElem?
      intro i
      by_cases k : off + h.i * h.sz + h.c = i
      · subst k; rw [Array.getElem?_setIfInBounds_self_of_lt hlt, hc]
      · rw [Array.getElem?_setIfInBounds_ne k]
end Vx
