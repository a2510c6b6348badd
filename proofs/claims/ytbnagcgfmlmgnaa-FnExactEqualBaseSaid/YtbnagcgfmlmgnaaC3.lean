import Derived.Test.YtbnagcgfmlmgnaaH
/- What the reference's equality functions return. No condition. -/
open Go Vx
namespace Vx.D.Ytbnagcgfmlmgnaa
open Go.Proofs
set_option maxRecDepth 100000
set_option linter.unusedVariables false
set_option linter.unusedSimpArgs false

theorem c_sTexts {l m : List ByteArray} {xs ys : List (List T)} (hx : rows false l = xs) (hy : rows false m = ys) (hf : finL l) :
    Returns E 75 [.c (.t (.sl false 1 xs)), .c (.t (.sl false 1 ys))] [] (.c (.t (.bool (same l m)))) [] := by
  refine fn_walk tb [0, 1, 4, 5, 10, 14, 25] (fn := Try.f75) hmix htb Try.func75 rfl (by kernel_rfl) (by kernel_rfl) (Nat.le_of_ble_eq_true (by kernel_rfl)) rfl ?_
  intro ar cm sc bc nt ng ln sz tn idx get set vw rep nf R r hπ hR hr
  have F := PF.of hπ
  have hlen : ln xs = I l.length := by rw [F.ln, ← hx, rows_length]
  have hlen' : ln ys = I m.length := by rw [F.ln, ← hy, rows_length]
  have hl : l.length ≤ 9223372036854775807 := hf.1
  have hget : ∀ (k : Nat) (i : Int), i = I k → (hk : k < l.length) → idx xs i = some (G.cells false l[k]) := fun k i hi hk => by rw [F.idx, ← hx, rows_get, hi, I]; simp [hk]
  have hget' : ∀ (k : Nat) (i : Int), i = I k → (hk : k < m.length) → idx ys i = some (G.cells false m[k]) := fun k i hi hk => by rw [F.idx, ← hy, rows_get, hi, I]; simp [hk]
  cbv
  split
  · rename_i h
    simp only [F.neq, hlen, hlen', decide_eq_true_eq] at h
    cbv
    exact ⟨by rw [hr, same_false.2 fun e => h (by rw [e])], trivial⟩
  · rename_i h
    simp only [F.neq, hlen, hlen', decide_eq_false_iff_not, Decidable.not_not] at h
    have hlm : l.length = m.length := by simp only [I] at h; omega
    cbv
    refine aloop_inv [0, 1, 4, 5] [] (fun (a : Nat × Int) => ⟨[(0, .c (.t (.sl false 1 xs))), (1, .c (.t (.sl false 1 ys))), (4, .c (.t (.bool false))), (5, .c (.t (.int .i64 a.2)))], [], [], [], [], []⟩)
      (fun a => a.1 ≤ l.length ∧ a.2 = I a.1 ∧ l.take a.1 = m.take a.1) (fun a => l.length - a.1) (0, 0) ⟨by simp, rfl, rfl⟩ rfl ?_
    rintro ⟨k, i⟩ ⟨hk, hi, ht⟩
    simp only at hk hi ht
    cbv
    split
    · rename_i hlt
      simp only [F.lss, hlen, decide_eq_true_eq, hi] at hlt
      have hkl : k < l.length := by simp only [I] at hlt; omega
      have hkm : k < m.length := by omega
      have hg := hget k i hi hkl
      have hg' := hget' k i hi hkm
      have hst : l[k] = m[k] → l.take (k + 1) = m.take (k + 1) := take_eq_succ ht hkl hkm
      have heq : l = m → l[k] = m[k] := fun e => by subst e; rfl
      have hfx := hf.2 l[k] (List.getElem_mem hkl)
      generalize l[k] = x at hg hst heq hfx
      generalize m[k] = y at hg' hst heq
      change idx xs i = some [.str x] at hg
      change idx ys i = some [.str y] at hg'
      cbv
      rw [hg]
      cbv
      rw [hg']
      cbv
      split
      · rename_i h
        simp only [F.sneq, decide_eq_true_eq] at h
        cbv
        exact ⟨by rw [hr, same_false.2 fun e => h (heq e)], trivial⟩
      · rename_i h
        simp only [F.sneq, decide_eq_false_iff_not, Decidable.not_not] at h
        cbv
        refine ⟨(k + 1, ar .add .i64 i 1), ⟨by simp only; omega, ?_, hst h⟩, by simp only; omega, rfl⟩
        simp only [F.add, hi, IntKind.wrap_i64, I]; omega
    · rename_i hlt
      simp only [F.lss, hlen, decide_eq_false_iff_not, hi] at hlt
      have hkl : k = l.length := by simp only [I] at hlt; omega
      subst hkl
      rw [List.take_length, hlm, List.take_length] at ht
      cbv
      exact ⟨by rw [hr, same_iff.2 ht], trivial⟩

theorem c_sInts {l m : List Int} {xs ys : List (List T)} (hx : rows false l = xs) (hy : rows false m = ys) (hf : finL l) :
    Returns E 91 [.c (.t (.sl false 1 xs)), .c (.t (.sl false 1 ys))] [] (.c (.t (.bool (same l m)))) [] := by
  refine fn_walk tb [0, 1, 4, 5, 10, 14, 25] (fn := Try.f91) hmix htb Try.func91 rfl (by kernel_rfl) (by kernel_rfl) (Nat.le_of_ble_eq_true (by kernel_rfl)) rfl ?_
  intro ar cm sc bc nt ng ln sz tn idx get set vw rep nf R r hπ hR hr
  have F := PF.of hπ
  have hlen : ln xs = I l.length := by rw [F.ln, ← hx, rows_length]
  have hlen' : ln ys = I m.length := by rw [F.ln, ← hy, rows_length]
  have hl : l.length ≤ 9223372036854775807 := hf.1
  have hget : ∀ (k : Nat) (i : Int), i = I k → (hk : k < l.length) → idx xs i = some (G.cells false l[k]) := fun k i hi hk => by rw [F.idx, ← hx, rows_get, hi, I]; simp [hk]
  have hget' : ∀ (k : Nat) (i : Int), i = I k → (hk : k < m.length) → idx ys i = some (G.cells false m[k]) := fun k i hi hk => by rw [F.idx, ← hy, rows_get, hi, I]; simp [hk]
  cbv
  split
  · rename_i h
    simp only [F.neq, hlen, hlen', decide_eq_true_eq] at h
    cbv
    exact ⟨by rw [hr, same_false.2 fun e => h (by rw [e])], trivial⟩
  · rename_i h
    simp only [F.neq, hlen, hlen', decide_eq_false_iff_not, Decidable.not_not] at h
    have hlm : l.length = m.length := by simp only [I] at h; omega
    cbv
    refine aloop_inv [0, 1, 4, 5] [] (fun (a : Nat × Int) => ⟨[(0, .c (.t (.sl false 1 xs))), (1, .c (.t (.sl false 1 ys))), (4, .c (.t (.bool false))), (5, .c (.t (.int .i64 a.2)))], [], [], [], [], []⟩)
      (fun a => a.1 ≤ l.length ∧ a.2 = I a.1 ∧ l.take a.1 = m.take a.1) (fun a => l.length - a.1) (0, 0) ⟨by simp, rfl, rfl⟩ rfl ?_
    rintro ⟨k, i⟩ ⟨hk, hi, ht⟩
    simp only at hk hi ht
    cbv
    split
    · rename_i hlt
      simp only [F.lss, hlen, decide_eq_true_eq, hi] at hlt
      have hkl : k < l.length := by simp only [I] at hlt; omega
      have hkm : k < m.length := by omega
      have hg := hget k i hi hkl
      have hg' := hget' k i hi hkm
      have hst : l[k] = m[k] → l.take (k + 1) = m.take (k + 1) := take_eq_succ ht hkl hkm
      have heq : l = m → l[k] = m[k] := fun e => by subst e; rfl
      have hfx := hf.2 l[k] (List.getElem_mem hkl)
      generalize l[k] = x at hg hst heq hfx
      generalize m[k] = y at hg' hst heq
      change idx xs i = some [.int .i64 x] at hg
      change idx ys i = some [.int .i64 y] at hg'
      cbv
      rw [hg]
      cbv
      rw [hg']
      cbv
      split
      · rename_i h
        simp only [F.neq, decide_eq_true_eq] at h
        cbv
        exact ⟨by rw [hr, same_false.2 fun e => h (heq e)], trivial⟩
      · rename_i h
        simp only [F.neq, decide_eq_false_iff_not, Decidable.not_not] at h
        cbv
        refine ⟨(k + 1, ar .add .i64 i 1), ⟨by simp only; omega, ?_, hst h⟩, by simp only; omega, rfl⟩
        simp only [F.add, hi, IntKind.wrap_i64, I]; omega
    · rename_i hlt
      simp only [F.lss, hlen, decide_eq_false_iff_not, hi] at hlt
      have hkl : k = l.length := by simp only [I] at hlt; omega
      subst hkl
      rw [List.take_length, hlm, List.take_length] at ht
      cbv
      exact ⟨by rw [hr, same_iff.2 ht], trivial⟩

theorem d_sEqExpr {a0 : Int} {a1 : ByteArray} {a2 : List Expr} {b0 : Int} {b1 : ByteArray} {b2 : List Expr} {xa2 : List (List T)} (hxa2 : rows false a2 = xa2) {xb2 : List (List T)} (hxb2 : rows false b2 = xb2) (hf : G.fin (⟨a0, a1, a2⟩ : Expr))
    (ih : ∀ x ∈ a2, ∀ {x' : Expr} {y y' : List (List T)}, rows false x.args = y → rows false x'.args = y' → G.fin x → Returns E 54 [.agg [.t (.int .i64 x.kind), .t (.str x.name), .t (.sl false 3 y)], .agg [.t (.int .i64 x'.kind), .t (.str x'.name), .t (.sl false 3 y')]] [] (.c (.t (.bool (same x x')))) []) :
    Returns E 54 [.agg [.t (.int .i64 a0), .t (.str a1), .t (.sl false 3 xa2)], .agg [.t (.int .i64 b0), .t (.str b1), .t (.sl false 3 xb2)]] [] (.c (.t (.bool (same (⟨a0, a1, a2⟩ : Expr) (⟨b0, b1, b2⟩ : Expr))))) [] := by
  refine fn_walk tb [0, 1, 2, 3, 4, 5, 26, 31, 45] (fn := Try.f54) hmix htb Try.func54 rfl (by kernel_rfl) (by kernel_rfl) (Nat.le_of_ble_eq_true (by kernel_rfl)) rfl ?_
  intro ar cm sc bc nt ng ln sz tn idx get set vw rep nf R r hπ hR hr
  have F := PF.of hπ
  have hlen : ln xa2 = I a2.length := by rw [F.ln, ← hxa2, rows_length]
  have hlen' : ln xb2 = I b2.length := by rw [F.ln, ← hxb2, rows_length]
  have hl : a2.length ≤ 9223372036854775807 := ((Expr.fin _).1 hf).2.1
  have hget : ∀ (k : Nat) (i : Int), i = I k → (hk : k < a2.length) → idx xa2 i = some (G.cells false a2[k]) := fun k i hi hk => by rw [F.idx, ← hxa2, rows_get, hi, I]; simp [hk]
  have hget' : ∀ (k : Nat) (i : Int), i = I k → (hk : k < b2.length) → idx xb2 i = some (G.cells false b2[k]) := fun k i hi hk => by rw [F.idx, ← hxb2, rows_get, hi, I]; simp [hk]
  have hinj : (⟨a0, a1, a2⟩ : Expr) = (⟨b0, b1, b2⟩ : Expr) → a0 = b0 ∧ a1 = b1 ∧ a2 = b2 := fun e => by cases e; simp
  have hmk : a0 = b0 ∧ a1 = b1 ∧ a2 = b2 → (⟨a0, a1, a2⟩ : Expr) = (⟨b0, b1, b2⟩ : Expr) := fun e => by obtain ⟨e0, e1, e2⟩ := e; cases e0; cases e1; cases e2; rfl
  have hf00 := ((Expr.fin _).1 hf).2
  generalize (⟨a0, a1, a2⟩ : Expr) = A at hinj hmk hr hf
  generalize (⟨b0, b1, b2⟩ : Expr) = B at hinj hmk hr
  cbv
  cases f0 : cm .neq a0 b0
  case true =>
    rw [F.neq] at f0
    simp only [decide_eq_true_eq] at f0
    have f' : ¬ a0 = b0 := f0
    cbv
    exact ⟨by rw [hr, same_false.2 fun e => f' ((hinj e).1)], trivial⟩
  case false =>
  rw [F.neq] at f0
  simp only [decide_eq_false_iff_not, Decidable.not_not] at f0
  cbv
  cases f1 : sc .neq a1 b1
  case true =>
    rw [F.sneq] at f1
    simp only [decide_eq_true_eq] at f1
    have f' : ¬ a1 = b1 := f1
    cbv
    exact ⟨by rw [hr, same_false.2 fun e => f' ((hinj e).2.1)], trivial⟩
  case false =>
  rw [F.sneq] at f1
  simp only [decide_eq_false_iff_not, Decidable.not_not] at f1
  cbv
  cases f2 : cm .neq (ln xa2) (ln xb2)
  case true =>
    rw [F.neq] at f2
    simp only [decide_eq_true_eq] at f2
    have f' : ¬ ln xa2 = ln xb2 := f2
    cbv
    exact ⟨by rw [hr, same_false.2 fun e => f' (by rw [hlen, hlen', (hinj e).2.2])], trivial⟩
  case false =>
  rw [F.neq] at f2
  simp only [decide_eq_false_iff_not, Decidable.not_not] at f2
  cbv
  have hlm : a2.length = b2.length := by rw [hlen, hlen'] at f2; simp only [I] at f2; omega
  refine aloop_inv [2, 3, 4, 5] [1002, 1003] (fun (a : Nat × Int) => ⟨[(2, .c (.ptr ⟨.obj 1002, 0, []⟩)), (3, .c (.ptr ⟨.obj 1003, 0, []⟩)), (4, .c (.t (.bool false))), (5, .c (.t (.int .i64 a.2)))], [], [(1002, [.t (.int .i64 a0), .t (.str a1), .t (.sl false 3 xa2)]), (1003, [.t (.int .i64 b0), .t (.str b1), .t (.sl false 3 xb2)])], [], [], []⟩)
    (fun a => a.1 ≤ a2.length ∧ a.2 = I a.1 ∧ a2.take a.1 = b2.take a.1) (fun a => a2.length - a.1) (0, 0) ⟨by simp, rfl, rfl⟩ rfl ?_
  rintro ⟨k, i⟩ ⟨hk, hi, ht⟩
  simp only at hk hi ht
  cbv
  split
  · rename_i hlt
    simp only [F.lss, hlen, decide_eq_true_eq, hi] at hlt
    have hkl : k < a2.length := by simp only [I] at hlt; omega
    have hkm : k < b2.length := by omega
    have hg := hget k i hi hkl
    have hg' := hget' k i hi hkm
    have hst : a2[k] = b2[k] → a2.take (k + 1) = b2.take (k + 1) := take_eq_succ ht hkl hkm
    have heq : a2 = b2 → a2[k] = b2[k] := fun e => by subst e; rfl
    have hf := hf00.2 a2[k] (List.getElem_mem hkl)
    have ih1 := @ih a2[k] (List.getElem_mem hkl)
    generalize a2[k] = x at hg hst heq hf ih1
    generalize b2[k] = y at hg' hst heq
    obtain ⟨u0, u1, u2⟩ := x
    obtain ⟨w0, w1, w2⟩ := y
    simp only [Expr.cells] at hg hg'
    generalize hxu2 : rows false u2 = xu2 at hg
    generalize hxw2 : rows false w2 = xw2 at hg'
    have hc := ih1 (x' := ⟨w0, w1, w2⟩) hxu2 hxw2 hf
    generalize hv : same _ _ = v at hc
    cbv
    rw [hg]
    cbv
    rw [hg']
    cbv
    refine ⟨_, (hR ▸ hc : R 54 _ _ _ _), ?_⟩
    cbv
    rw [F.nt]
    cases v
    · cbv
      exact ⟨by rw [hr, same_false.2 fun e => same_false.1 hv (heq (hinj e).2.2)], trivial⟩
    · cbv
      refine ⟨(k + 1, ar .add .i64 i 1), ⟨by simp only; omega, ?_, hst (same_iff.1 hv)⟩, by simp only; omega, rfl⟩
      simp only [F.add, hi, IntKind.wrap_i64, I]; omega
  · rename_i hlt
    simp only [F.lss, hlen, decide_eq_false_iff_not, hi] at hlt
    have hkl : k = a2.length := by simp only [I] at hlt; omega
    subst hkl
    rw [List.take_length, hlm, List.take_length] at ht
    cbv
    exact ⟨by rw [hr, same_iff.2 (hmk ⟨f0, f1, ht⟩)], trivial⟩

theorem e_sEqExpr : ∀ x : Expr, ∀ {x' : Expr} {y y' : List (List T)}, rows false x.args = y → rows false x'.args = y' → G.fin x → Returns E 54 [.agg [.t (.int .i64 x.kind), .t (.str x.name), .t (.sl false 3 y)], .agg [.t (.int .i64 x'.kind), .t (.str x'.name), .t (.sl false 3 y')]] [] (.c (.t (.bool (same x x')))) [] := by
  refine Expr.ind fun k n l0 ih => ?_
  intro x' y y' hy hy' hf
  obtain ⟨k', n', bs⟩ := x'
  exact d_sEqExpr hy hy' hf (ih)

theorem c_sEqExpr {a0 : Int} {a1 : ByteArray} {a2 : List Expr} {b0 : Int} {b1 : ByteArray} {b2 : List Expr} {xa2 : List (List T)} (hxa2 : rows false a2 = xa2) {xb2 : List (List T)} (hxb2 : rows false b2 = xb2) (hf : G.fin (⟨a0, a1, a2⟩ : Expr)) :
    Returns E 54 [.agg [.t (.int .i64 a0), .t (.str a1), .t (.sl false 3 xa2)], .agg [.t (.int .i64 b0), .t (.str b1), .t (.sl false 3 xb2)]] [] (.c (.t (.bool (same (⟨a0, a1, a2⟩ : Expr) (⟨b0, b1, b2⟩ : Expr))))) [] := e_sEqExpr (⟨a0, a1, a2⟩ : Expr) (x' := (⟨b0, b1, b2⟩ : Expr)) hxa2 hxb2 hf

theorem c_sEqProgram {a0 : List Rule} {b0 : List Rule} {xa0 : List (List T)} (hxa0 : rows false a0 = xa0) {xb0 : List (List T)} (hxb0 : rows false b0 = xb0) (hf : G.fin (⟨a0⟩ : Program)) :
    Returns E 33 [.agg [.t (.sl false 7 xa0)], .agg [.t (.sl false 7 xb0)]] [] (.c (.t (.bool (same (⟨a0⟩ : Program) (⟨b0⟩ : Program))))) [] := by
  refine fn_walk tb [0, 1, 2, 3, 4, 5, 6, 7, 14, 19, 67] (fn := Try.f33) hmix htb Try.func33 rfl (by kernel_rfl) (by kernel_rfl) (Nat.le_of_ble_eq_true (by kernel_rfl)) rfl ?_
  intro ar cm sc bc nt ng ln sz tn idx get set vw rep nf R r hπ hR hr
  have F := PF.of hπ
  have hlen : ln xa0 = I a0.length := by rw [F.ln, ← hxa0, rows_length]
  have hlen' : ln xb0 = I b0.length := by rw [F.ln, ← hxb0, rows_length]
  have hl : a0.length ≤ 9223372036854775807 := (hf : finL a0).1
  have hget : ∀ (k : Nat) (i : Int), i = I k → (hk : k < a0.length) → idx xa0 i = some (G.cells false a0[k]) := fun k i hi hk => by rw [F.idx, ← hxa0, rows_get, hi, I]; simp [hk]
  have hget' : ∀ (k : Nat) (i : Int), i = I k → (hk : k < b0.length) → idx xb0 i = some (G.cells false b0[k]) := fun k i hi hk => by rw [F.idx, ← hxb0, rows_get, hi, I]; simp [hk]
  have hinj : (⟨a0⟩ : Program) = (⟨b0⟩ : Program) → a0 = b0 := fun e => by cases e; simp
  have hmk : a0 = b0 → (⟨a0⟩ : Program) = (⟨b0⟩ : Program) := fun e => by have e0 := e; cases e0; rfl
  have hf00 : finL a0 := hf
  generalize (⟨a0⟩ : Program) = A at hinj hmk hr hf
  generalize (⟨b0⟩ : Program) = B at hinj hmk hr
  cbv
  cases f9 : cm .neq (ln xa0) (ln xb0)
  case true =>
    rw [F.neq] at f9
    simp only [decide_eq_true_eq] at f9
    have f' : ¬ ln xa0 = ln xb0 := f9
    cbv
    exact ⟨by rw [hr, same_false.2 fun e => f' (by rw [hlen, hlen', hinj e])], trivial⟩
  case false =>
  rw [F.neq] at f9
  simp only [decide_eq_false_iff_not, Decidable.not_not] at f9
  have hlm : a0.length = b0.length := by rw [hlen, hlen'] at f9; simp only [I] at f9; omega
  cbv
  refine aloop_inv [2, 3, 4, 5] [1002, 1003] (fun (a : Nat × Int) => ⟨[(2, .c (.ptr ⟨.obj 1002, 0, []⟩)), (3, .c (.ptr ⟨.obj 1003, 0, []⟩)), (4, .c (.t (.bool false))), (5, .c (.t (.int .i64 a.2)))], [], [(1002, [.t (.sl false 7 xa0)]), (1003, [.t (.sl false 7 xb0)])], [], [], []⟩)
    (fun a => a.1 ≤ a0.length ∧ a.2 = I a.1 ∧ a0.take a.1 = b0.take a.1) (fun a => a0.length - a.1) (0, 0) ⟨by simp, rfl, rfl⟩ rfl ?_
  rintro ⟨k, i⟩ ⟨hk, hi, ht⟩
  simp only at hk hi ht
  cbv
  split
  · rename_i hlt
    simp only [F.lss, hlen, decide_eq_true_eq, hi] at hlt
    have hkl : k < a0.length := by simp only [I] at hlt; omega
    have hkm : k < b0.length := by omega
    have hg := hget k i hi hkl
    have hg' := hget' k i hi hkm
    have hst : a0[k] = b0[k] → a0.take (k + 1) = b0.take (k + 1) := take_eq_succ ht hkl hkm
    have heq : a0 = b0 → a0[k] = b0[k] := fun e => by subst e; rfl
    have hf := hf00.2 a0[k] (List.getElem_mem hkl)
    generalize a0[k] = x at hg hst heq hf
    generalize b0[k] = y at hg' hst heq
    obtain ⟨u0, u1, u2, u3, ⟨u4, u5, u6⟩⟩ := x
    obtain ⟨w0, w1, w2, w3, ⟨w4, w5, w6⟩⟩ := y
    simp only [Rule.cells] at hg hg'
    generalize hxu2 : rows false u2 = xu2 at hg
    generalize hxu3 : rows false u3 = xu3 at hg
    generalize hxu6 : rows false u6 = xu6 at hg
    generalize hxw2 : rows false w2 = xw2 at hg'
    generalize hxw3 : rows false w3 = xw3 at hg'
    generalize hxw6 : rows false w6 = xw6 at hg'
    have hfx := hf
    change u0.size ≤ BIG ∧ u1.size ≤ BIG ∧ finL u2 ∧ finL u3 ∧ G.fin (⟨u4, u5, u6⟩ : Expr) at hfx
    obtain ⟨hf0, hf1, hf2, hf3, hf4⟩ := hfx
    have hinj2 : (⟨u0, u1, u2, u3, ⟨u4, u5, u6⟩⟩ : Rule) = (⟨w0, w1, w2, w3, ⟨w4, w5, w6⟩⟩ : Rule) → u0 = w0 ∧ u1 = w1 ∧ u2 = w2 ∧ u3 = w3 ∧ (⟨u4, u5, u6⟩ : Expr) = ⟨w4, w5, w6⟩ := fun e => by cases e; simp
    have hmk2 : u0 = w0 ∧ u1 = w1 ∧ u2 = w2 ∧ u3 = w3 ∧ (⟨u4, u5, u6⟩ : Expr) = ⟨w4, w5, w6⟩ → (⟨u0, u1, u2, u3, ⟨u4, u5, u6⟩⟩ : Rule) = (⟨w0, w1, w2, w3, ⟨w4, w5, w6⟩⟩ : Rule) := fun e => by obtain ⟨e0, e1, e2, e3, e4⟩ := e; cases e0; cases e1; cases e2; cases e3; cases e4; rfl
    generalize (⟨u0, u1, u2, u3, ⟨u4, u5, u6⟩⟩ : Rule) = A2 at hinj2 hmk2 hst heq hf
    generalize (⟨w0, w1, w2, w3, ⟨w4, w5, w6⟩⟩ : Rule) = B2 at hinj2 hmk2 hst heq
    cbv
    rw [hg]
    cbv
    rw [hg']
    cbv
    cases f0 : sc .neq u0 w0
    case true =>
      rw [F.sneq] at f0
      simp only [decide_eq_true_eq] at f0
      have f0' : ¬ u0 = w0 := f0
      cbv
      exact ⟨by rw [hr, same_false.2 fun e => f0' (hinj2 (heq (hinj e))).1], trivial⟩
    case false =>
    rw [F.sneq] at f0
    simp only [decide_eq_false_iff_not, Decidable.not_not] at f0
    cbv
    cases f1 : sc .neq u1 w1
    case true =>
      rw [F.sneq] at f1
      simp only [decide_eq_true_eq] at f1
      have f1' : ¬ u1 = w1 := f1
      cbv
      exact ⟨by rw [hr, same_false.2 fun e => f1' (hinj2 (heq (hinj e))).2.1], trivial⟩
    case false =>
    rw [F.sneq] at f1
    simp only [decide_eq_false_iff_not, Decidable.not_not] at f1
    cbv
    have hc := c_sTexts hxu2 hxw2 hf2
    generalize f2 : same _ _ = v2 at hc
    refine ⟨_, (hR ▸ hc : R 75 _ _ _ _), ?_⟩
    cbv
    cases v2
    case false =>
      rw [same_false] at f2
      rw [F.nt]; cbv
      exact ⟨by rw [hr, same_false.2 fun e => f2 (hinj2 (heq (hinj e))).2.2.1], trivial⟩
    case true =>
    rw [same_iff] at f2
    rw [F.nt]; cbv
    have hc := c_sTexts hxu3 hxw3 hf3
    generalize f3 : same _ _ = v3 at hc
    refine ⟨_, (hR ▸ hc : R 75 _ _ _ _), ?_⟩
    cbv
    cases v3
    case false =>
      rw [same_false] at f3
      rw [F.nt]; cbv
      exact ⟨by rw [hr, same_false.2 fun e => f3 (hinj2 (heq (hinj e))).2.2.2.1], trivial⟩
    case true =>
    rw [same_iff] at f3
    rw [F.nt]; cbv
    have hc := c_sEqExpr (b0 := w4) (b1 := w5) (b2 := w6) hxu6 hxw6 hf4
    generalize f4 : same _ _ = v4 at hc
    refine ⟨_, (hR ▸ hc : R 54 _ _ _ _), ?_⟩
    cbv
    cases v4
    case false =>
      rw [same_false] at f4
      rw [F.nt]; cbv
      exact ⟨by rw [hr, same_false.2 fun e => f4 (hinj2 (heq (hinj e))).2.2.2.2], trivial⟩
    case true =>
    rw [same_iff] at f4
    rw [F.nt]; cbv
    refine ⟨(k + 1, ar .add .i64 i 1), ⟨by simp only; omega, ?_, hst (hmk2 ⟨f0, f1, f2, f3, f4⟩)⟩, by simp only; omega, rfl⟩
    simp only [F.add, hi, IntKind.wrap_i64, I]; omega
  · rename_i hlt
    simp only [F.lss, hlen, decide_eq_false_iff_not, hi] at hlt
    have hkl : k = a0.length := by simp only [I] at hlt; omega
    subst hkl
    rw [List.take_length, hlm, List.take_length] at ht
    cbv
    exact ⟨by rw [hr, same_iff.2 (hmk ht)], trivial⟩

theorem c_sEqResidual {a0 : List Rule} {a1 : Int} {a2 : ByteArray} {a3 : List Expr} {b0 : List Rule} {b1 : Int} {b2 : ByteArray} {b3 : List Expr} {xa0 : List (List T)} (hxa0 : rows false a0 = xa0) {xa3 : List (List T)} (hxa3 : rows false a3 = xa3) {xb0 : List (List T)} (hxb0 : rows false b0 = xb0) {xb3 : List (List T)} (hxb3 : rows false b3 = xb3) (hf : G.fin (⟨⟨a0⟩, ⟨a1, a2, a3⟩⟩ : Residual)) :
    Returns E 56 [.agg [.t (.sl false 7 xa0), .t (.int .i64 a1), .t (.str a2), .t (.sl false 3 xa3)], .agg [.t (.sl false 7 xb0), .t (.int .i64 b1), .t (.str b2), .t (.sl false 3 xb3)]] [] (.c (.t (.bool (same (⟨⟨a0⟩, ⟨a1, a2, a3⟩⟩ : Residual) (⟨⟨b0⟩, ⟨b1, b2, b3⟩⟩ : Residual))))) [] := by
  refine fn_walk tb [0, 1, 2, 3, 4] (fn := Try.f56) hmix htb Try.func56 rfl (by kernel_rfl) (by kernel_rfl) (Nat.le_of_ble_eq_true (by kernel_rfl)) rfl ?_
  intro ar cm sc bc nt ng ln sz tn idx get set vw rep nf R r hπ hR hr
  have F := PF.of hπ
  have hfx := hf
  change G.fin (⟨a0⟩ : Program) ∧ G.fin (⟨a1, a2, a3⟩ : Expr) at hfx
  obtain ⟨hf0, hf1⟩ := hfx
  have hinj : (⟨⟨a0⟩, ⟨a1, a2, a3⟩⟩ : Residual) = (⟨⟨b0⟩, ⟨b1, b2, b3⟩⟩ : Residual) → (⟨a0⟩ : Program) = ⟨b0⟩ ∧ (⟨a1, a2, a3⟩ : Expr) = ⟨b1, b2, b3⟩ := fun e => by cases e; simp
  have hmk : (⟨a0⟩ : Program) = ⟨b0⟩ ∧ (⟨a1, a2, a3⟩ : Expr) = ⟨b1, b2, b3⟩ → (⟨⟨a0⟩, ⟨a1, a2, a3⟩⟩ : Residual) = (⟨⟨b0⟩, ⟨b1, b2, b3⟩⟩ : Residual) := fun e => by obtain ⟨e0, e1⟩ := e; cases e0; cases e1; rfl
  generalize (⟨⟨a0⟩, ⟨a1, a2, a3⟩⟩ : Residual) = A at hinj hmk hr hf
  generalize (⟨⟨b0⟩, ⟨b1, b2, b3⟩⟩ : Residual) = B at hinj hmk hr
  cbv
  have hc := c_sEqProgram (b0 := b0) hxa0 hxb0 hf0
  generalize f0 : same _ _ = v0 at hc
  refine ⟨_, (hR ▸ hc : R 33 _ _ _ _), ?_⟩
  cbv
  cases v0
  case false =>
    rw [same_false] at f0
    cbv
    exact ⟨by rw [hr, same_false.2 fun e => f0 (hinj e).1], trivial⟩
  case true =>
  rw [same_iff] at f0
  cbv
  have hc := c_sEqExpr (b0 := b1) (b1 := b2) (b2 := b3) hxa3 hxb3 hf1
  generalize f1 : same _ _ = v1 at hc
  refine ⟨_, (hR ▸ hc : R 54 _ _ _ _), ?_⟩
  cbv
  cases v1
  case false =>
    rw [same_false] at f1
    cbv
    exact ⟨by rw [hr, same_false.2 fun e => f1 (hinj e).2], trivial⟩
  case true =>
  rw [same_iff] at f1
  cbv
  exact ⟨by rw [hr, same_iff.2 (hmk ⟨f0, f1⟩)], trivial⟩

theorem c_sEqEntry {a0 : Int} {a1 : ByteArray} {a2 : List Expr} {a3 : List ByteArray} {a4 : Bool} {a5 : List Rule} {a6 : Int} {a7 : ByteArray} {a8 : List Expr} {b0 : Int} {b1 : ByteArray} {b2 : List Expr} {b3 : List ByteArray} {b4 : Bool} {b5 : List Rule} {b6 : Int} {b7 : ByteArray} {b8 : List Expr} {xa2 : List (List T)} (hxa2 : rows false a2 = xa2) {xa3 : List (List T)} (hxa3 : rows false a3 = xa3) {xa5 : List (List T)} (hxa5 : rows false a5 = xa5) {xa8 : List (List T)} (hxa8 : rows false a8 = xa8) {xb2 : List (List T)} (hxb2 : rows false b2 = xb2) {xb3 : List (List T)} (hxb3 : rows false b3 = xb3) {xb5 : List (List T)} (hxb5 : rows false b5 = xb5) {xb8 : List (List T)} (hxb8 : rows false b8 = xb8) (hf : G.fin (⟨⟨a0, a1, a2⟩, a3, a4, ⟨⟨a5⟩, ⟨a6, a7, a8⟩⟩⟩ : Entry)) :
    Returns E 32 [.agg [.t (.int .i64 a0), .t (.str a1), .t (.sl false 3 xa2), .t (.sl false 1 xa3), .t (.bool a4), .t (.sl false 7 xa5), .t (.int .i64 a6), .t (.str a7), .t (.sl false 3 xa8)], .agg [.t (.int .i64 b0), .t (.str b1), .t (.sl false 3 xb2), .t (.sl false 1 xb3), .t (.bool b4), .t (.sl false 7 xb5), .t (.int .i64 b6), .t (.str b7), .t (.sl false 3 xb8)]] [] (.c (.t (.bool (same (⟨⟨a0, a1, a2⟩, a3, a4, ⟨⟨a5⟩, ⟨a6, a7, a8⟩⟩⟩ : Entry) (⟨⟨b0, b1, b2⟩, b3, b4, ⟨⟨b5⟩, ⟨b6, b7, b8⟩⟩⟩ : Entry))))) [] := by
  refine fn_walk tb [0, 1, 2, 3, 4] (fn := Try.f32) hmix htb Try.func32 rfl (by kernel_rfl) (by kernel_rfl) (Nat.le_of_ble_eq_true (by kernel_rfl)) rfl ?_
  intro ar cm sc bc nt ng ln sz tn idx get set vw rep nf R r hπ hR hr
  have F := PF.of hπ
  have hfx := hf
  change G.fin (⟨a0, a1, a2⟩ : Expr) ∧ finL a3 ∧ G.fin (⟨⟨a5⟩, ⟨a6, a7, a8⟩⟩ : Residual) at hfx
  obtain ⟨hf0, hf1, hf3⟩ := hfx
  have hinj : (⟨⟨a0, a1, a2⟩, a3, a4, ⟨⟨a5⟩, ⟨a6, a7, a8⟩⟩⟩ : Entry) = (⟨⟨b0, b1, b2⟩, b3, b4, ⟨⟨b5⟩, ⟨b6, b7, b8⟩⟩⟩ : Entry) → (⟨a0, a1, a2⟩ : Expr) = ⟨b0, b1, b2⟩ ∧ a3 = b3 ∧ a4 = b4 ∧ (⟨⟨a5⟩, ⟨a6, a7, a8⟩⟩ : Residual) = ⟨⟨b5⟩, ⟨b6, b7, b8⟩⟩ := fun e => by cases e; simp
  have hmk : (⟨a0, a1, a2⟩ : Expr) = ⟨b0, b1, b2⟩ ∧ a3 = b3 ∧ a4 = b4 ∧ (⟨⟨a5⟩, ⟨a6, a7, a8⟩⟩ : Residual) = ⟨⟨b5⟩, ⟨b6, b7, b8⟩⟩ → (⟨⟨a0, a1, a2⟩, a3, a4, ⟨⟨a5⟩, ⟨a6, a7, a8⟩⟩⟩ : Entry) = (⟨⟨b0, b1, b2⟩, b3, b4, ⟨⟨b5⟩, ⟨b6, b7, b8⟩⟩⟩ : Entry) := fun e => by obtain ⟨e0, e1, e2, e3⟩ := e; cases e0; cases e1; cases e2; cases e3; rfl
  generalize (⟨⟨a0, a1, a2⟩, a3, a4, ⟨⟨a5⟩, ⟨a6, a7, a8⟩⟩⟩ : Entry) = A at hinj hmk hr hf
  generalize (⟨⟨b0, b1, b2⟩, b3, b4, ⟨⟨b5⟩, ⟨b6, b7, b8⟩⟩⟩ : Entry) = B at hinj hmk hr
  cbv
  have hc := c_sEqExpr (b0 := b0) (b1 := b1) (b2 := b2) hxa2 hxb2 hf0
  generalize f0 : same _ _ = v0 at hc
  refine ⟨_, (hR ▸ hc : R 54 _ _ _ _), ?_⟩
  cbv
  cases v0
  case false =>
    rw [same_false] at f0
    cbv
    exact ⟨by rw [hr, same_false.2 fun e => f0 (hinj e).1], trivial⟩
  case true =>
  rw [same_iff] at f0
  cbv
  have hc := c_sTexts hxa3 hxb3 hf1
  generalize f1 : same _ _ = v1 at hc
  refine ⟨_, (hR ▸ hc : R 75 _ _ _ _), ?_⟩
  cbv
  cases v1
  case false =>
    rw [same_false] at f1
    cbv
    exact ⟨by rw [hr, same_false.2 fun e => f1 (hinj e).2.1], trivial⟩
  case true =>
  rw [same_iff] at f1
  cbv
  cases f2 : bc .eql a4 b4
  case false =>
    rw [F.beql] at f2
    simp only [beq_eq_false_iff_ne] at f2
    have f2' : ¬ a4 = b4 := f2
    cbv
    exact ⟨by rw [hr, same_false.2 fun e => f2' (hinj e).2.2.1], trivial⟩
  case true =>
  rw [F.beql] at f2
  simp only [beq_iff_eq] at f2
  cbv
  have hc := c_sEqResidual (b0 := b5) (b1 := b6) (b2 := b7) (b3 := b8) hxa5 hxa8 hxb5 hxb8 hf3
  generalize f3 : same _ _ = v3 at hc
  refine ⟨_, (hR ▸ hc : R 56 _ _ _ _), ?_⟩
  cbv
  cases v3
  case false =>
    rw [same_false] at f3
    cbv
    exact ⟨by rw [hr, same_false.2 fun e => f3 (hinj e).2.2.2], trivial⟩
  case true =>
  rw [same_iff] at f3
  cbv
  exact ⟨by rw [hr, same_iff.2 (hmk ⟨f0, f1, f2, f3⟩)], trivial⟩

theorem c_sEqBase {a0 : List Rule} {a1 : List Entry} {b0 : List Rule} {b1 : List Entry} {xa0 : List (List T)} (hxa0 : rows false a0 = xa0) {xa1 : List (List T)} (hxa1 : rows false a1 = xa1) {xb0 : List (List T)} (hxb0 : rows false b0 = xb0) {xb1 : List (List T)} (hxb1 : rows false b1 = xb1) (hf : G.fin (⟨⟨a0⟩, a1⟩ : Base)) :
    Returns E 8 [.agg [.t (.sl false 7 xa0), .t (.sl false 9 xa1)], .agg [.t (.sl false 7 xb0), .t (.sl false 9 xb1)]] [] (.c (.t (.bool (same (⟨⟨a0⟩, a1⟩ : Base) (⟨⟨b0⟩, b1⟩ : Base))))) [] := by
  refine fn_walk tb [0, 1, 2, 3, 4, 5, 12, 17, 31] (fn := Try.f8) hmix htb Try.func8 rfl (by kernel_rfl) (by kernel_rfl) (Nat.le_of_ble_eq_true (by kernel_rfl)) rfl ?_
  intro ar cm sc bc nt ng ln sz tn idx get set vw rep nf R r hπ hR hr
  have F := PF.of hπ
  have hlen : ln xa1 = I a1.length := by rw [F.ln, ← hxa1, rows_length]
  have hlen' : ln xb1 = I b1.length := by rw [F.ln, ← hxb1, rows_length]
  have hl : a1.length ≤ 9223372036854775807 := (hf : finL a0 ∧ finL a1).2.1
  have hget : ∀ (k : Nat) (i : Int), i = I k → (hk : k < a1.length) → idx xa1 i = some (G.cells false a1[k]) := fun k i hi hk => by rw [F.idx, ← hxa1, rows_get, hi, I]; simp [hk]
  have hget' : ∀ (k : Nat) (i : Int), i = I k → (hk : k < b1.length) → idx xb1 i = some (G.cells false b1[k]) := fun k i hi hk => by rw [F.idx, ← hxb1, rows_get, hi, I]; simp [hk]
  have hinj : (⟨⟨a0⟩, a1⟩ : Base) = (⟨⟨b0⟩, b1⟩ : Base) → (⟨a0⟩ : Program) = ⟨b0⟩ ∧ a1 = b1 := fun e => by cases e; simp
  have hmk : (⟨a0⟩ : Program) = ⟨b0⟩ ∧ a1 = b1 → (⟨⟨a0⟩, a1⟩ : Base) = (⟨⟨b0⟩, b1⟩ : Base) := fun e => by obtain ⟨e0, e1⟩ := e; cases e0; cases e1; rfl
  have hf00 : finL a1 := (hf : finL a0 ∧ finL a1).2
  have hf0 : G.fin (⟨a0⟩ : Program) := (hf : finL a0 ∧ finL a1).1
  generalize (⟨⟨a0⟩, a1⟩ : Base) = A at hinj hmk hr hf
  generalize (⟨⟨b0⟩, b1⟩ : Base) = B at hinj hmk hr
  cbv
  cases f9 : cm .neq (ln xa1) (ln xb1)
  case true =>
    rw [F.neq] at f9
    simp only [decide_eq_true_eq] at f9
    have f' : ¬ ln xa1 = ln xb1 := f9
    cbv
    exact ⟨by rw [hr, same_false.2 fun e => f' (by rw [hlen, hlen', (hinj e).2])], trivial⟩
  case false =>
  rw [F.neq] at f9
  simp only [decide_eq_false_iff_not, Decidable.not_not] at f9
  have hlm : a1.length = b1.length := by rw [hlen, hlen'] at f9; simp only [I] at f9; omega
  cbv
  refine aloop_inv [2, 3, 4, 5] [1002, 1003] (fun (a : Nat × Int) => ⟨[(2, .c (.ptr ⟨.obj 1002, 0, []⟩)), (3, .c (.ptr ⟨.obj 1003, 0, []⟩)), (4, .c (.t (.bool false))), (5, .c (.t (.int .i64 a.2)))], [], [(1002, [.t (.sl false 7 xa0), .t (.sl false 9 xa1)]), (1003, [.t (.sl false 7 xb0), .t (.sl false 9 xb1)])], [], [], []⟩)
    (fun a => a.1 ≤ a1.length ∧ a.2 = I a.1 ∧ a1.take a.1 = b1.take a.1) (fun a => a1.length - a.1) (0, 0) ⟨by simp, rfl, rfl⟩ rfl ?_
  rintro ⟨k, i⟩ ⟨hk, hi, ht⟩
  simp only at hk hi ht
  cbv
  split
  · rename_i hlt
    simp only [F.lss, hlen, decide_eq_true_eq, hi] at hlt
    have hkl : k < a1.length := by simp only [I] at hlt; omega
    have hkm : k < b1.length := by omega
    have hg := hget k i hi hkl
    have hg' := hget' k i hi hkm
    have hst : a1[k] = b1[k] → a1.take (k + 1) = b1.take (k + 1) := take_eq_succ ht hkl hkm
    have heq : a1 = b1 → a1[k] = b1[k] := fun e => by subst e; rfl
    have hf := hf00.2 a1[k] (List.getElem_mem hkl)
    generalize a1[k] = x at hg hst heq hf
    generalize b1[k] = y at hg' hst heq
    obtain ⟨⟨u0, u1, u2⟩, u3, u4, ⟨⟨u5⟩, ⟨u6, u7, u8⟩⟩⟩ := x
    obtain ⟨⟨w0, w1, w2⟩, w3, w4, ⟨⟨w5⟩, ⟨w6, w7, w8⟩⟩⟩ := y
    simp only [Entry.cells] at hg hg'
    generalize hxu2 : rows false u2 = xu2 at hg
    generalize hxu3 : rows false u3 = xu3 at hg
    generalize hxu5 : rows false u5 = xu5 at hg
    generalize hxu8 : rows false u8 = xu8 at hg
    generalize hxw2 : rows false w2 = xw2 at hg'
    generalize hxw3 : rows false w3 = xw3 at hg'
    generalize hxw5 : rows false w5 = xw5 at hg'
    generalize hxw8 : rows false w8 = xw8 at hg'
    have hc := c_sEqEntry  (b0 := w0) (b1 := w1) (b2 := w2) (b3 := w3) (b4 := w4) (b5 := w5) (b6 := w6) (b7 := w7) (b8 := w8) hxu2 hxu3 hxu5 hxu8 hxw2 hxw3 hxw5 hxw8 hf
    generalize hv : same _ _ = v at hc
    cbv
    rw [hg]
    cbv
    rw [hg']
    cbv
    refine ⟨_, (hR ▸ hc : R 32 _ _ _ _), ?_⟩
    cbv
    rw [F.nt]
    cases v
    · cbv
      exact ⟨by rw [hr, same_false.2 fun e => same_false.1 hv (heq (hinj e).2)], trivial⟩
    · cbv
      refine ⟨(k + 1, ar .add .i64 i 1), ⟨by simp only; omega, ?_, hst (same_iff.1 hv)⟩, by simp only; omega, rfl⟩
      simp only [F.add, hi, IntKind.wrap_i64, I]; omega
  · rename_i hlt
    simp only [F.lss, hlen, decide_eq_false_iff_not, hi] at hlt
    have hkl : k = a1.length := by simp only [I] at hlt; omega
    subst hkl
    rw [List.take_length, hlm, List.take_length] at ht
    cbv
    have hc := c_sEqProgram hxa0 hxb0 hf0
    generalize hv : same _ _ = v at hc
    refine ⟨_, (hR ▸ hc : R 33 _ _ _ _), ?_⟩
    cbv
    cases v
    · exact ⟨by rw [hr, same_false.2 fun e => same_false.1 hv (hinj e).1], trivial⟩
    · exact ⟨by rw [hr, same_iff.2 (hmk ⟨same_iff.1 hv, ht⟩)], trivial⟩

theorem c_sEqBindings {l m : List Binding} {xs ys : List (List T)} (hx : rows false l = xs) (hy : rows false m = ys) (hf : finL l) :
    Returns E 92 [.c (.t (.sl false 4 xs)), .c (.t (.sl false 4 ys))] [] (.c (.t (.bool (same l m)))) [] := by
  refine fn_walk tb [0, 1, 4, 5, 10, 14, 41] (fn := Try.f92) hmix htb Try.func92 rfl (by kernel_rfl) (by kernel_rfl) (Nat.le_of_ble_eq_true (by kernel_rfl)) rfl ?_
  intro ar cm sc bc nt ng ln sz tn idx get set vw rep nf R r hπ hR hr
  have F := PF.of hπ
  have hlen : ln xs = I l.length := by rw [F.ln, ← hx, rows_length]
  have hlen' : ln ys = I m.length := by rw [F.ln, ← hy, rows_length]
  have hl : l.length ≤ 9223372036854775807 := hf.1
  have hget : ∀ (k : Nat) (i : Int), i = I k → (hk : k < l.length) → idx xs i = some (G.cells false l[k]) := fun k i hi hk => by rw [F.idx, ← hx, rows_get, hi, I]; simp [hk]
  have hget' : ∀ (k : Nat) (i : Int), i = I k → (hk : k < m.length) → idx ys i = some (G.cells false m[k]) := fun k i hi hk => by rw [F.idx, ← hy, rows_get, hi, I]; simp [hk]
  have hf00 := hf
  cbv
  cases f9 : cm .neq (ln xs) (ln ys)
  case true =>
    rw [F.neq] at f9
    simp only [decide_eq_true_eq] at f9
    have f' : ¬ ln xs = ln ys := f9
    cbv
    exact ⟨by rw [hr, same_false.2 fun e => f' (by rw [hlen, hlen', e])], trivial⟩
  case false =>
  rw [F.neq] at f9
  simp only [decide_eq_false_iff_not, Decidable.not_not] at f9
  have hlm : l.length = m.length := by rw [hlen, hlen'] at f9; simp only [I] at f9; omega
  cbv
  refine aloop_inv [0, 1, 4, 5] [] (fun (a : Nat × Int) => ⟨[(0, .c (.t (.sl false 4 xs))), (1, .c (.t (.sl false 4 ys))), (4, .c (.t (.bool false))), (5, .c (.t (.int .i64 a.2)))], [], [], [], [], []⟩)
    (fun a => a.1 ≤ l.length ∧ a.2 = I a.1 ∧ l.take a.1 = m.take a.1) (fun a => l.length - a.1) (0, 0) ⟨by simp, rfl, rfl⟩ rfl ?_
  rintro ⟨k, i⟩ ⟨hk, hi, ht⟩
  simp only at hk hi ht
  cbv
  split
  · rename_i hlt
    simp only [F.lss, hlen, decide_eq_true_eq, hi] at hlt
    have hkl : k < l.length := by simp only [I] at hlt; omega
    have hkm : k < m.length := by omega
    have hg := hget k i hi hkl
    have hg' := hget' k i hi hkm
    have hst : l[k] = m[k] → l.take (k + 1) = m.take (k + 1) := take_eq_succ ht hkl hkm
    have heq : l = m → l[k] = m[k] := fun e => by subst e; rfl
    have hf := hf00.2 l[k] (List.getElem_mem hkl)
    generalize l[k] = x at hg hst heq hf
    generalize m[k] = y at hg' hst heq
    obtain ⟨u0, ⟨u1, u2, u3⟩⟩ := x
    obtain ⟨w0, ⟨w1, w2, w3⟩⟩ := y
    simp only [Binding.cells] at hg hg'
    generalize hxu3 : rows false u3 = xu3 at hg
    generalize hxw3 : rows false w3 = xw3 at hg'
    have hfx := hf
    change u0.size ≤ BIG ∧ G.fin (⟨u1, u2, u3⟩ : Expr) at hfx
    obtain ⟨hf0, hf1⟩ := hfx
    have hinj2 : (⟨u0, ⟨u1, u2, u3⟩⟩ : Binding) = (⟨w0, ⟨w1, w2, w3⟩⟩ : Binding) → u0 = w0 ∧ (⟨u1, u2, u3⟩ : Expr) = ⟨w1, w2, w3⟩ := fun e => by cases e; simp
    have hmk2 : u0 = w0 ∧ (⟨u1, u2, u3⟩ : Expr) = ⟨w1, w2, w3⟩ → (⟨u0, ⟨u1, u2, u3⟩⟩ : Binding) = (⟨w0, ⟨w1, w2, w3⟩⟩ : Binding) := fun e => by obtain ⟨e0, e1⟩ := e; cases e0; cases e1; rfl
    generalize (⟨u0, ⟨u1, u2, u3⟩⟩ : Binding) = A2 at hinj2 hmk2 hst heq hf
    generalize (⟨w0, ⟨w1, w2, w3⟩⟩ : Binding) = B2 at hinj2 hmk2 hst heq
    cbv
    rw [hg]
    cbv
    rw [hg']
    cbv
    cases f0 : sc .neq u0 w0
    case true =>
      rw [F.sneq] at f0
      simp only [decide_eq_true_eq] at f0
      have f0' : ¬ u0 = w0 := f0
      cbv
      exact ⟨by rw [hr, same_false.2 fun e => f0' (hinj2 (heq (e))).1], trivial⟩
    case false =>
    rw [F.sneq] at f0
    simp only [decide_eq_false_iff_not, Decidable.not_not] at f0
    cbv
    rw [hg]
    cbv
    rw [hg']
    cbv
    have hc := c_sEqExpr (b0 := w1) (b1 := w2) (b2 := w3) hxu3 hxw3 hf1
    generalize f1 : same _ _ = v1 at hc
    refine ⟨_, (hR ▸ hc : R 54 _ _ _ _), ?_⟩
    cbv
    cases v1
    case false =>
      rw [same_false] at f1
      rw [F.nt]; cbv
      exact ⟨by rw [hr, same_false.2 fun e => f1 (hinj2 (heq (e))).2], trivial⟩
    case true =>
    rw [same_iff] at f1
    rw [F.nt]; cbv
    refine ⟨(k + 1, ar .add .i64 i 1), ⟨by simp only; omega, ?_, hst (hmk2 ⟨f0, f1⟩)⟩, by simp only; omega, rfl⟩
    simp only [F.add, hi, IntKind.wrap_i64, I]; omega
  · rename_i hlt
    simp only [F.lss, hlen, decide_eq_false_iff_not, hi] at hlt
    have hkl : k = l.length := by simp only [I] at hlt; omega
    subst hkl
    rw [List.take_length, hlm, List.take_length] at ht
    cbv
    exact ⟨by rw [hr, same_iff.2 ht], trivial⟩

theorem c_sEqTree {a0 : List Node} {b0 : List Node} {xa0 : List (List T)} (hxa0 : rows false a0 = xa0) {xb0 : List (List T)} (hxb0 : rows false b0 = xb0) (hf : G.fin (⟨a0⟩ : Tree)) :
    Returns E 55 [.agg [.t (.sl false 11 xa0)], .agg [.t (.sl false 11 xb0)]] [] (.c (.t (.bool (same (⟨a0⟩ : Tree) (⟨b0⟩ : Tree))))) [] := by
  refine fn_walk tb [0, 1, 2, 3, 4, 5, 6, 7, 14, 19, 72, 94] (fn := Try.f55) hmix htb Try.func55 rfl (by kernel_rfl) (by kernel_rfl) (Nat.le_of_ble_eq_true (by kernel_rfl)) rfl ?_
  intro ar cm sc bc nt ng ln sz tn idx get set vw rep nf R r hπ hR hr
  have F := PF.of hπ
  have hlen : ln xa0 = I a0.length := by rw [F.ln, ← hxa0, rows_length]
  have hlen' : ln xb0 = I b0.length := by rw [F.ln, ← hxb0, rows_length]
  have hl : a0.length ≤ 9223372036854775807 := (hf : finL a0).1
  have hget : ∀ (k : Nat) (i : Int), i = I k → (hk : k < a0.length) → idx xa0 i = some (G.cells false a0[k]) := fun k i hi hk => by rw [F.idx, ← hxa0, rows_get, hi, I]; simp [hk]
  have hget' : ∀ (k : Nat) (i : Int), i = I k → (hk : k < b0.length) → idx xb0 i = some (G.cells false b0[k]) := fun k i hi hk => by rw [F.idx, ← hxb0, rows_get, hi, I]; simp [hk]
  have hinj : (⟨a0⟩ : Tree) = (⟨b0⟩ : Tree) → a0 = b0 := fun e => by cases e; simp
  have hmk : a0 = b0 → (⟨a0⟩ : Tree) = (⟨b0⟩ : Tree) := fun e => by have e0 := e; cases e0; rfl
  have hf00 : finL a0 := hf
  generalize (⟨a0⟩ : Tree) = A at hinj hmk hr hf
  generalize (⟨b0⟩ : Tree) = B at hinj hmk hr
  cbv
  cases f9 : cm .neq (ln xa0) (ln xb0)
  case true =>
    rw [F.neq] at f9
    simp only [decide_eq_true_eq] at f9
    have f' : ¬ ln xa0 = ln xb0 := f9
    cbv
    exact ⟨by rw [hr, same_false.2 fun e => f' (by rw [hlen, hlen', hinj e])], trivial⟩
  case false =>
  rw [F.neq] at f9
  simp only [decide_eq_false_iff_not, Decidable.not_not] at f9
  have hlm : a0.length = b0.length := by rw [hlen, hlen'] at f9; simp only [I] at f9; omega
  cbv
  refine aloop_inv [2, 3, 4, 5] [1002, 1003] (fun (a : Nat × Int) => ⟨[(2, .c (.ptr ⟨.obj 1002, 0, []⟩)), (3, .c (.ptr ⟨.obj 1003, 0, []⟩)), (4, .c (.t (.bool false))), (5, .c (.t (.int .i64 a.2)))], [], [(1002, [.t (.sl false 11 xa0)]), (1003, [.t (.sl false 11 xb0)])], [], [], []⟩)
    (fun a => a.1 ≤ a0.length ∧ a.2 = I a.1 ∧ a0.take a.1 = b0.take a.1) (fun a => a0.length - a.1) (0, 0) ⟨by simp, rfl, rfl⟩ rfl ?_
  rintro ⟨k, i⟩ ⟨hk, hi, ht⟩
  simp only at hk hi ht
  cbv
  split
  · rename_i hlt
    simp only [F.lss, hlen, decide_eq_true_eq, hi] at hlt
    have hkl : k < a0.length := by simp only [I] at hlt; omega
    have hkm : k < b0.length := by omega
    have hg := hget k i hi hkl
    have hg' := hget' k i hi hkm
    have hst : a0[k] = b0[k] → a0.take (k + 1) = b0.take (k + 1) := take_eq_succ ht hkl hkm
    have heq : a0 = b0 → a0[k] = b0[k] := fun e => by subst e; rfl
    have hf := hf00.2 a0[k] (List.getElem_mem hkl)
    generalize a0[k] = x at hg hst heq hf
    generalize b0[k] = y at hg' hst heq
    obtain ⟨u0, ⟨u1, u2, u3⟩, u4, u5, u6, u7, u8, u9, u10⟩ := x
    obtain ⟨w0, ⟨w1, w2, w3⟩, w4, w5, w6, w7, w8, w9, w10⟩ := y
    simp only [Node.cells] at hg hg'
    generalize hxu3 : rows false u3 = xu3 at hg
    generalize hxu5 : rows false u5 = xu5 at hg
    generalize hxu8 : rows false u8 = xu8 at hg
    generalize hxu9 : rows false u9 = xu9 at hg
    generalize hxw3 : rows false w3 = xw3 at hg'
    generalize hxw5 : rows false w5 = xw5 at hg'
    generalize hxw8 : rows false w8 = xw8 at hg'
    generalize hxw9 : rows false w9 = xw9 at hg'
    have hfx := hf
    change G.fin (⟨u1, u2, u3⟩ : Expr) ∧ finL u5 ∧ u6.size ≤ BIG ∧ u7.size ≤ BIG ∧ finL u8 ∧ finL u9 at hfx
    obtain ⟨hf1, hf3, hf4, hf5, hf6, hf7⟩ := hfx
    have hinj2 : (⟨u0, ⟨u1, u2, u3⟩, u4, u5, u6, u7, u8, u9, u10⟩ : Node) = (⟨w0, ⟨w1, w2, w3⟩, w4, w5, w6, w7, w8, w9, w10⟩ : Node) → u0 = w0 ∧ (⟨u1, u2, u3⟩ : Expr) = ⟨w1, w2, w3⟩ ∧ u4 = w4 ∧ u5 = w5 ∧ u6 = w6 ∧ u7 = w7 ∧ u8 = w8 ∧ u9 = w9 ∧ u10 = w10 := fun e => by cases e; simp
    have hmk2 : u0 = w0 ∧ (⟨u1, u2, u3⟩ : Expr) = ⟨w1, w2, w3⟩ ∧ u4 = w4 ∧ u5 = w5 ∧ u6 = w6 ∧ u7 = w7 ∧ u8 = w8 ∧ u9 = w9 ∧ u10 = w10 → (⟨u0, ⟨u1, u2, u3⟩, u4, u5, u6, u7, u8, u9, u10⟩ : Node) = (⟨w0, ⟨w1, w2, w3⟩, w4, w5, w6, w7, w8, w9, w10⟩ : Node) := fun e => by obtain ⟨e0, e1, e2, e3, e4, e5, e6, e7, e8⟩ := e; cases e0; cases e1; cases e2; cases e3; cases e4; cases e5; cases e6; cases e7; cases e8; rfl
    generalize (⟨u0, ⟨u1, u2, u3⟩, u4, u5, u6, u7, u8, u9, u10⟩ : Node) = A2 at hinj2 hmk2 hst heq hf
    generalize (⟨w0, ⟨w1, w2, w3⟩, w4, w5, w6, w7, w8, w9, w10⟩ : Node) = B2 at hinj2 hmk2 hst heq
    cbv
    rw [hg]
    cbv
    rw [hg']
    cbv
    cases f0 : cm .neq u0 w0
    case true =>
      rw [F.neq] at f0
      simp only [decide_eq_true_eq] at f0
      have f0' : ¬ u0 = w0 := f0
      cbv
      exact ⟨by rw [hr, same_false.2 fun e => f0' (hinj2 (heq (hinj e))).1], trivial⟩
    case false =>
    rw [F.neq] at f0
    simp only [decide_eq_false_iff_not, Decidable.not_not] at f0
    cbv
    have hc := c_sEqExpr (b0 := w1) (b1 := w2) (b2 := w3) hxu3 hxw3 hf1
    generalize f1 : same _ _ = v1 at hc
    refine ⟨_, (hR ▸ hc : R 54 _ _ _ _), ?_⟩
    cbv
    cases v1
    case false =>
      rw [same_false] at f1
      rw [F.nt]; cbv
      exact ⟨by rw [hr, same_false.2 fun e => f1 (hinj2 (heq (hinj e))).2.1], trivial⟩
    case true =>
    rw [same_iff] at f1
    rw [F.nt]; cbv
    cases f2 : cm .neq u4 w4
    case true =>
      rw [F.neq] at f2
      simp only [decide_eq_true_eq] at f2
      have f2' : ¬ u4 = w4 := f2
      cbv
      exact ⟨by rw [hr, same_false.2 fun e => f2' (hinj2 (heq (hinj e))).2.2.1], trivial⟩
    case false =>
    rw [F.neq] at f2
    simp only [decide_eq_false_iff_not, Decidable.not_not] at f2
    cbv
    cases f8 : cm .neq u10 w10
    case true =>
      rw [F.neq] at f8
      simp only [decide_eq_true_eq] at f8
      have f8' : ¬ u10 = w10 := f8
      cbv
      exact ⟨by rw [hr, same_false.2 fun e => f8' (hinj2 (heq (hinj e))).2.2.2.2.2.2.2.2], trivial⟩
    case false =>
    rw [F.neq] at f8
    simp only [decide_eq_false_iff_not, Decidable.not_not] at f8
    cbv
    cases f4 : sc .neq u6 w6
    case true =>
      rw [F.sneq] at f4
      simp only [decide_eq_true_eq] at f4
      have f4' : ¬ u6 = w6 := f4
      cbv
      exact ⟨by rw [hr, same_false.2 fun e => f4' (hinj2 (heq (hinj e))).2.2.2.2.1], trivial⟩
    case false =>
    rw [F.sneq] at f4
    simp only [decide_eq_false_iff_not, Decidable.not_not] at f4
    cbv
    cases f5 : sc .neq u7 w7
    case true =>
      rw [F.sneq] at f5
      simp only [decide_eq_true_eq] at f5
      have f5' : ¬ u7 = w7 := f5
      cbv
      exact ⟨by rw [hr, same_false.2 fun e => f5' (hinj2 (heq (hinj e))).2.2.2.2.2.1], trivial⟩
    case false =>
    rw [F.sneq] at f5
    simp only [decide_eq_false_iff_not, Decidable.not_not] at f5
    cbv
    have hc := c_sInts hxu5 hxw5 hf3
    generalize f3 : same _ _ = v3 at hc
    refine ⟨_, (hR ▸ hc : R 91 _ _ _ _), ?_⟩
    cbv
    cases v3
    case false =>
      rw [same_false] at f3
      rw [F.nt]; cbv
      exact ⟨by rw [hr, same_false.2 fun e => f3 (hinj2 (heq (hinj e))).2.2.2.1], trivial⟩
    case true =>
    rw [same_iff] at f3
    rw [F.nt]; cbv
    have hc := c_sTexts hxu8 hxw8 hf6
    generalize f6 : same _ _ = v6 at hc
    refine ⟨_, (hR ▸ hc : R 75 _ _ _ _), ?_⟩
    cbv
    cases v6
    case false =>
      rw [same_false] at f6
      rw [F.nt]; cbv
      exact ⟨by rw [hr, same_false.2 fun e => f6 (hinj2 (heq (hinj e))).2.2.2.2.2.2.1], trivial⟩
    case true =>
    rw [same_iff] at f6
    rw [F.nt]; cbv
    have hc := c_sEqBindings hxu9 hxw9 hf7
    generalize f7 : same _ _ = v7 at hc
    refine ⟨_, (hR ▸ hc : R 92 _ _ _ _), ?_⟩
    cbv
    cases v7
    case false =>
      rw [same_false] at f7
      rw [F.nt]; cbv
      exact ⟨by rw [hr, same_false.2 fun e => f7 (hinj2 (heq (hinj e))).2.2.2.2.2.2.2.1], trivial⟩
    case true =>
    rw [same_iff] at f7
    rw [F.nt]; cbv
    refine ⟨(k + 1, ar .add .i64 i 1), ⟨by simp only; omega, ?_, hst (hmk2 ⟨f0, f1, f2, f3, f4, f5, f6, f7, f8⟩)⟩, by simp only; omega, rfl⟩
    simp only [F.add, hi, IntKind.wrap_i64, I]; omega
  · rename_i hlt
    simp only [F.lss, hlen, decide_eq_false_iff_not, hi] at hlt
    have hkl : k = a0.length := by simp only [I] at hlt; omega
    subst hkl
    rw [List.take_length, hlm, List.take_length] at ht
    cbv
    exact ⟨by rw [hr, same_iff.2 (hmk ht)], trivial⟩

theorem c_sEqSession {a0 : ByteArray} {a1 : Int} {a2 : ByteArray} {a3 : List Expr} {a4 : List Node} {a5 : List Rule} {a6 : Int} {a7 : ByteArray} {a8 : List Expr} {b0 : ByteArray} {b1 : Int} {b2 : ByteArray} {b3 : List Expr} {b4 : List Node} {b5 : List Rule} {b6 : Int} {b7 : ByteArray} {b8 : List Expr} {xa3 : List (List T)} (hxa3 : rows false a3 = xa3) {xa4 : List (List T)} (hxa4 : rows false a4 = xa4) {xa5 : List (List T)} (hxa5 : rows false a5 = xa5) {xa8 : List (List T)} (hxa8 : rows false a8 = xa8) {xb3 : List (List T)} (hxb3 : rows false b3 = xb3) {xb4 : List (List T)} (hxb4 : rows false b4 = xb4) {xb5 : List (List T)} (hxb5 : rows false b5 = xb5) {xb8 : List (List T)} (hxb8 : rows false b8 = xb8) (hf : G.fin (⟨a0, ⟨a1, a2, a3⟩, ⟨a4⟩, ⟨⟨a5⟩, ⟨a6, a7, a8⟩⟩⟩ : Session)) :
    Returns E 22 [.agg [.t (.str a0), .t (.int .i64 a1), .t (.str a2), .t (.sl false 3 xa3), .t (.sl false 11 xa4), .t (.sl false 7 xa5), .t (.int .i64 a6), .t (.str a7), .t (.sl false 3 xa8)], .agg [.t (.str b0), .t (.int .i64 b1), .t (.str b2), .t (.sl false 3 xb3), .t (.sl false 11 xb4), .t (.sl false 7 xb5), .t (.int .i64 b6), .t (.str b7), .t (.sl false 3 xb8)]] [] (.c (.t (.bool (same (⟨a0, ⟨a1, a2, a3⟩, ⟨a4⟩, ⟨⟨a5⟩, ⟨a6, a7, a8⟩⟩⟩ : Session) (⟨b0, ⟨b1, b2, b3⟩, ⟨b4⟩, ⟨⟨b5⟩, ⟨b6, b7, b8⟩⟩⟩ : Session))))) [] := by
  refine fn_walk tb [0, 1, 2, 3, 4] (fn := Try.f22) hmix htb Try.func22 rfl (by kernel_rfl) (by kernel_rfl) (Nat.le_of_ble_eq_true (by kernel_rfl)) rfl ?_
  intro ar cm sc bc nt ng ln sz tn idx get set vw rep nf R r hπ hR hr
  have F := PF.of hπ
  have hfx := hf
  change a0.size ≤ BIG ∧ G.fin (⟨a1, a2, a3⟩ : Expr) ∧ G.fin (⟨a4⟩ : Tree) ∧ G.fin (⟨⟨a5⟩, ⟨a6, a7, a8⟩⟩ : Residual) at hfx
  obtain ⟨hf0, hf1, hf2, hf3⟩ := hfx
  have hinj : (⟨a0, ⟨a1, a2, a3⟩, ⟨a4⟩, ⟨⟨a5⟩, ⟨a6, a7, a8⟩⟩⟩ : Session) = (⟨b0, ⟨b1, b2, b3⟩, ⟨b4⟩, ⟨⟨b5⟩, ⟨b6, b7, b8⟩⟩⟩ : Session) → a0 = b0 ∧ (⟨a1, a2, a3⟩ : Expr) = ⟨b1, b2, b3⟩ ∧ (⟨a4⟩ : Tree) = ⟨b4⟩ ∧ (⟨⟨a5⟩, ⟨a6, a7, a8⟩⟩ : Residual) = ⟨⟨b5⟩, ⟨b6, b7, b8⟩⟩ := fun e => by cases e; simp
  have hmk : a0 = b0 ∧ (⟨a1, a2, a3⟩ : Expr) = ⟨b1, b2, b3⟩ ∧ (⟨a4⟩ : Tree) = ⟨b4⟩ ∧ (⟨⟨a5⟩, ⟨a6, a7, a8⟩⟩ : Residual) = ⟨⟨b5⟩, ⟨b6, b7, b8⟩⟩ → (⟨a0, ⟨a1, a2, a3⟩, ⟨a4⟩, ⟨⟨a5⟩, ⟨a6, a7, a8⟩⟩⟩ : Session) = (⟨b0, ⟨b1, b2, b3⟩, ⟨b4⟩, ⟨⟨b5⟩, ⟨b6, b7, b8⟩⟩⟩ : Session) := fun e => by obtain ⟨e0, e1, e2, e3⟩ := e; cases e0; cases e1; cases e2; cases e3; rfl
  generalize (⟨a0, ⟨a1, a2, a3⟩, ⟨a4⟩, ⟨⟨a5⟩, ⟨a6, a7, a8⟩⟩⟩ : Session) = A at hinj hmk hr hf
  generalize (⟨b0, ⟨b1, b2, b3⟩, ⟨b4⟩, ⟨⟨b5⟩, ⟨b6, b7, b8⟩⟩⟩ : Session) = B at hinj hmk hr
  cbv
  cases f0 : sc .eql a0 b0
  case false =>
    rw [F.seql] at f0
    simp only [decide_eq_false_iff_not] at f0
    have f0' : ¬ a0 = b0 := f0
    cbv
    exact ⟨by rw [hr, same_false.2 fun e => f0' (hinj e).1], trivial⟩
  case true =>
  rw [F.seql] at f0
  simp only [decide_eq_true_eq] at f0
  cbv
  have hc := c_sEqExpr (b0 := b1) (b1 := b2) (b2 := b3) hxa3 hxb3 hf1
  generalize f1 : same _ _ = v1 at hc
  refine ⟨_, (hR ▸ hc : R 54 _ _ _ _), ?_⟩
  cbv
  cases v1
  case false =>
    rw [same_false] at f1
    cbv
    exact ⟨by rw [hr, same_false.2 fun e => f1 (hinj e).2.1], trivial⟩
  case true =>
  rw [same_iff] at f1
  cbv
  have hc := c_sEqTree (b0 := b4) hxa4 hxb4 hf2
  generalize f2 : same _ _ = v2 at hc
  refine ⟨_, (hR ▸ hc : R 55 _ _ _ _), ?_⟩
  cbv
  cases v2
  case false =>
    rw [same_false] at f2
    cbv
    exact ⟨by rw [hr, same_false.2 fun e => f2 (hinj e).2.2.1], trivial⟩
  case true =>
  rw [same_iff] at f2
  cbv
  have hc := c_sEqResidual (b0 := b5) (b1 := b6) (b2 := b7) (b3 := b8) hxa5 hxa8 hxb5 hxb8 hf3
  generalize f3 : same _ _ = v3 at hc
  refine ⟨_, (hR ▸ hc : R 56 _ _ _ _), ?_⟩
  cbv
  cases v3
  case false =>
    rw [same_false] at f3
    cbv
    exact ⟨by rw [hr, same_false.2 fun e => f3 (hinj e).2.2.2], trivial⟩
  case true =>
  rw [same_iff] at f3
  cbv
  exact ⟨by rw [hr, same_iff.2 (hmk ⟨f0, f1, f2, f3⟩)], trivial⟩
end Vx.D.Ytbnagcgfmlmgnaa
