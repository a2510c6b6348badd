import Derived.Test.YtjfpbaknhaikmaaV29b
namespace Vx
open Go Classical
set_option linter.unusedSimpArgs false
set_option linter.unusedVariables false

/-! ## Cells stored into an owned slice -/
theorem sub_some {t x : T} {h : Hop} (e : t.sub h = some x) : ∃ xs row, t = .sl true h.sz xs ∧ xs[h.i]? = some row ∧ row[h.c]? = some x := by
  cases t with
  | sl o sz xs =>
    cases o with
    | true =>
      simp only [T.sub] at e
      by_cases hs : h.sz = sz
      · rw [if_pos hs] at e
        cases hr : xs[h.i]? with
        | none => rw [hr] at e; cases e
        | some row => rw [hr] at e; subst hs; exact ⟨xs, row, rfl, hr, e⟩
      · rw [if_neg hs] at e; cases e
    | false => cases e
  | _ => cases e
theorem sub_setSub {t x u : T} {h : Hop} (e : t.sub h = some x) : (t.setSub h u).sub h = some u := by
  obtain ⟨xs, row, rfl, h1, h2⟩ := sub_some e
  have l1 := lt_of_getElem? h1
  have l2 := lt_of_getElem? h2
  simp only [T.setSub, T.sub, if_true]
  rw [List.getElem?_set_self l1]
  simp [List.getD, h1, l2]
theorem setSub_setSub {t x u v : T} {h : Hop} (e : t.sub h = some x) : (t.setSub h u).setSub h v = t.setSub h v := by
  obtain ⟨xs, row, rfl, h1, h2⟩ := sub_some e
  have l1 := lt_of_getElem? h1
  simp [T.setSub, List.getD, h1, l1]
theorem setSub_self {t x : T} {h : Hop} (e : t.sub h = some x) : t.setSub h x = t := by
  obtain ⟨xs, row, rfl, h1, h2⟩ := sub_some e
  have l1 := lt_of_getElem? h1
  have l2 := lt_of_getElem? h2
  have e1 : row = xs[h.i] := by rw [List.getElem?_eq_getElem l1] at h1; cases h1; rfl
  have e2 : x = row[h.c] := by rw [List.getElem?_eq_getElem l2] at h2; cases h2; rfl
  simp only [T.setSub, List.getD, h1, Option.getD_some]
  rw [e2, List.set_getElem_self, e1, List.set_getElem_self]
theorem at_put_self : ∀ {p : List Hop} {t x u : T}, t.at p = some x → (t.put p u).at p = some u
  | [], t, x, u, _ => rfl
  | h :: p, t, x, u, e => by
    simp only [T.at] at e ⊢
    cases hy : t.at p with
    | none => rw [hy] at e; cases e
    | some y =>
      rw [hy] at e
      simp only [Option.bind_some] at e
      simp only [T.put, hy]
      rw [at_put_self hy]
      exact sub_setSub e
theorem put_put : ∀ {p : List Hop} {t x u v : T}, t.at p = some x → (t.put p u).put p v = t.put p v
  | [], t, x, u, v, _ => rfl
  | h :: p, t, x, u, v, e => by
    simp only [T.at] at e
    cases hy : t.at p with
    | none => rw [hy] at e; cases e
    | some y =>
      rw [hy] at e
      simp only [Option.bind_some] at e
      simp only [T.put, hy, at_put_self hy]
      rw [put_put hy, setSub_setSub e]
theorem put_self : ∀ {p : List Hop} {t x : T}, t.at p = some x → t.put p x = t
  | [], t, x, e => by simp [T.at] at e; exact e.symm
  | h :: p, t, x, e => by
    simp only [T.at] at e
    cases hy : t.at p with
    | none => rw [hy] at e; cases e
    | some y =>
      rw [hy] at e
      simp only [Option.bind_some] at e
      simp only [T.put, hy]
      rw [setSub_self e, put_self hy]
def setCells (y : T) (h : Hop) : List T → T
  | [] => y
  | x :: l => setCells (y.setSub h x) { h with c := h.c + 1 } l
theorem putCells_eq {q : List Hop} : ∀ (ts : List T) (t y : T) (h : Hop), t.at q = some y → (∃ xs row, y = .sl true h.sz xs ∧ xs[h.i]? = some row ∧ h.c + ts.length ≤ row.length) → putCells t h q ts = t.put q (setCells y h ts)
  | [], t, y, h, e, _ => by simp only [putCells, setCells]; rw [put_self e]
  | x :: ts, t, y, h, e, hr => by
    obtain ⟨xs, row, rfl, h1, h2⟩ := hr
    simp only [List.length_cons] at h2
    simp only [putCells, setCells]
    have l1 := lt_of_getElem? h1
    have hput : t.put (h :: q) x = t.put q ((T.sl true h.sz xs).setSub h x) := by simp only [T.put, e]
    rw [hput]
    rw [putCells_eq ts _ ((T.sl true h.sz xs).setSub h x) { h with c := h.c + 1 } (at_put_self e) ⟨xs.set h.i (row.set h.c x), row.set h.c x, by simp [T.setSub, List.getD, h1], by simp [l1], by simp; omega⟩, put_put e]
theorem setCells_eq : ∀ (ts : List T) (h : Hop) (xs : List (List T)) (row : List T), xs[h.i]? = some row → h.c + ts.length ≤ row.length →
    setCells (.sl true h.sz xs) h ts = .sl true h.sz (xs.set h.i (row.take h.c ++ ts ++ row.drop (h.c + ts.length)))
  | [], h, xs, row, h1, h2 => by
    have l1 := lt_of_getElem? h1
    have e1 : row = xs[h.i] := by rw [List.getElem?_eq_getElem l1] at h1; cases h1; rfl
    simp only [setCells, List.append_nil, List.length_nil, Nat.add_zero, List.take_append_drop]
    rw [e1, List.set_getElem_self]
  | x :: ts, h, xs, row, h1, h2 => by
    have l1 := lt_of_getElem? h1
    simp only [List.length_cons] at h2
    simp only [setCells, T.setSub, List.getD, h1, Option.getD_some]
    have := setCells_eq ts { h with c := h.c + 1 } (xs.set h.i (row.set h.c x)) (row.set h.c x) (by simp [l1]) (by simp; omega)
    simp only at this
    rw [this]
    congr 1
    rw [List.set_set]
    congr 1
    have e1 : (row.set h.c x).take (h.c + 1) = row.take h.c ++ [x] := by
      apply List.ext_getElem?
      intro k
      rw [List.getElem?_take]
      have hl : (row.take h.c).length = h.c := by simp; omega
      by_cases k1 : k < h.c
      · rw [if_pos (by omega), List.getElem?_append_left (by omega), List.getElem?_take, if_pos k1, List.getElem?_set_ne (by omega)]
      · by_cases k2 : k = h.c
        · subst k2
          rw [if_pos (by omega), List.getElem?_append_right (by omega), List.getElem?_set_self (by omega), hl]
          simp
        · rw [if_neg (by omega), List.getElem?_append_right (by omega), hl]
          rw [List.getElem?_eq_none (by simp; omega)]
    have e2 : (row.set h.c x).drop (h.c + 1 + ts.length) = row.drop (h.c + (ts.length + 1)) := by
      apply List.ext_getElem?
      intro k
      rw [List.getElem?_drop, List.getElem?_drop, List.getElem?_set_ne (by omega)]
      congr 1
      omega
    rw [e1, e2]
    simp
end Vx
