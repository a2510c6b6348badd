import Derived.Test.YtbnagcgfmlmgnaaH
/- What the program's own equality functions return. No condition. -/
open Go Vx
namespace Vx.D.Ytbnagcgfmlmgnaa
open Go.Proofs
set_option maxRecDepth 100000
set_option linter.unusedVariables false
set_option linter.unusedSimpArgs false

theorem c_sEqStr {l m : List ByteArray} {xs ys : List (List T)} (hx : rows false l = xs) (hy : rows false m = ys) (hf : finL l) :
    Returns E 79 [.c (.t (.sl false 1 xs)), .c (.t (.sl false 1 ys))] [] (.c (.t (.bool (same l m)))) [] := by
  refine fn_walk tb [0, 1, 4, 5, 10, 12, 13, 14, 24] (fn := Try.f79) hmix htb Try.func79 rfl (by kernel_rfl) (by kernel_rfl) (Nat.le_of_ble_eq_true (by kernel_rfl)) rfl ?_
  intro ar cm sc bc nt ng ln sz tn idx get set vw rep nf R r hπ hR hr
  have F := PF.of hπ
  have hlen : ln xs = I l.length := by rw [F.ln, ← hx, rows_length]
  have hlen' : ln ys = I m.length := by rw [F.ln, ← hy, rows_length]
  have hl : l.length ≤ 9223372036854775807 := hf.1
  have hget : ∀ (k : Nat) (i : Int), i = I k → (hk : k < l.length) → idx xs i = some (G.cells false l[k]) := fun k i hi hk => by rw [F.idx, ← hx, rows_get, hi, I]; simp [hk]
  have hget' : ∀ (k : Nat) (i : Int), i = I k → (hk : k < m.length) → idx ys i = some (G.cells false m[k]) := fun k i hi hk => by rw [F.idx, ← hy, rows_get, hi, I]; simp [hk]
  cbv
  split
  · rename_i h
    simp only [F.neq, hlen, hlen', decide_eq_true_eq] at h
    cbv
    exact ⟨by rw [hr, same_false.2 fun e => h (by rw [e])], trivial⟩
  · rename_i h
    simp only [F.neq, hlen, hlen', decide_eq_false_iff_not, Decidable.not_not] at h
    have hlm : l.length = m.length := by simp only [I] at h; omega
    cbv
    refine aloop_inv [0, 1, 4, 12, 13] [] (fun (a : Nat × Int) => ⟨[(0, .c (.t (.sl false 1 xs))), (1, .c (.t (.sl false 1 ys))), (4, .c (.t (.bool false))), (12, .c (.t (.int .i64 (ln xs)))), (13, .c (.t (.int .i64 a.2)))], [], [], [], [], []⟩)
      (fun a => a.1 ≤ l.length ∧ a.2 = I a.1 ∧ l.take a.1 = m.take a.1) (fun a => l.length - a.1) (0, 0) ⟨by simp, rfl, rfl⟩ rfl ?_
    rintro ⟨k, i⟩ ⟨hk, hi, ht⟩
    simp only at hk hi ht
    cbv
    split
    · rename_i hlt
      simp only [F.lss, hlen, decide_eq_true_eq, hi] at hlt
      have hkl : k < l.length := by simp only [I] at hlt; omega
      have hkm : k < m.length := by omega
      have hg := hget k i hi hkl
      have hg' := hget' k i hi hkm
      have hst : l[k] = m[k] → l.take (k + 1) = m.take (k + 1) := take_eq_succ ht hkl hkm
      have heq : l = m → l[k] = m[k] := fun e => by subst e; rfl
      have hfx := hf.2 l[k] (List.getElem_mem hkl)
      generalize l[k] = x at hg hst heq hfx
      generalize m[k] = y at hg' hst heq
      change idx xs i = some [.str x] at hg
      change idx ys i = some [.str y] at hg'
      cbv
      rw [hg]
      cbv
      rw [hg']
      cbv
      cases h : sc .neq x y
      case true =>
        rw [F.sneq] at h
        simp only [decide_eq_true_eq] at h
        have h' : ¬ x = y := h
        cbv
        exact ⟨by rw [hr, same_false.2 fun e => h' (heq e)], trivial⟩
      case false =>
        rw [F.sneq] at h
        simp only [decide_eq_false_iff_not, Decidable.not_not] at h
        cbv
        refine ⟨(k + 1, ar .add .i64 i 1), ⟨by simp only; omega, ?_, hst h⟩, by simp only; omega, rfl⟩
        simp only [F.add, hi, IntKind.wrap_i64, I]; omega
    · rename_i hlt
      simp only [F.lss, hlen, decide_eq_false_iff_not, hi] at hlt
      have hkl : k = l.length := by simp only [I] at hlt; omega
      subst hkl
      rw [List.take_length, hlm, List.take_length] at ht
      cbv
      exact ⟨by rw [hr, same_iff.2 ht], trivial⟩

theorem c_sEqInt {l m : List Int} {xs ys : List (List T)} (hx : rows false l = xs) (hy : rows false m = ys) (hf : finL l) :
    Returns E 107 [.c (.t (.sl false 1 xs)), .c (.t (.sl false 1 ys))] [] (.c (.t (.bool (same l m)))) [] := by
  refine fn_walk tb [0, 1, 4, 5, 10, 12, 13, 14, 24] (fn := Try.f107) hmix htb Try.func107 rfl (by kernel_rfl) (by kernel_rfl) (Nat.le_of_ble_eq_true (by kernel_rfl)) rfl ?_
  intro ar cm sc bc nt ng ln sz tn idx get set vw rep nf R r hπ hR hr
  have F := PF.of hπ
  have hlen : ln xs = I l.length := by rw [F.ln, ← hx, rows_length]
  have hlen' : ln ys = I m.length := by rw [F.ln, ← hy, rows_length]
  have hl : l.length ≤ 9223372036854775807 := hf.1
  have hget : ∀ (k : Nat) (i : Int), i = I k → (hk : k < l.length) → idx xs i = some (G.cells false l[k]) := fun k i hi hk => by rw [F.idx, ← hx, rows_get, hi, I]; simp [hk]
  have hget' : ∀ (k : Nat) (i : Int), i = I k → (hk : k < m.length) → idx ys i = some (G.cells false m[k]) := fun k i hi hk => by rw [F.idx, ← hy, rows_get, hi, I]; simp [hk]
  cbv
  split
  · rename_i h
    simp only [F.neq, hlen, hlen', decide_eq_true_eq] at h
    cbv
    exact ⟨by rw [hr, same_false.2 fun e => h (by rw [e])], trivial⟩
  · rename_i h
    simp only [F.neq, hlen, hlen', decide_eq_false_iff_not, Decidable.not_not] at h
    have hlm : l.length = m.length := by simp only [I] at h; omega
    cbv
    refine aloop_inv [0, 1, 4, 12, 13] [] (fun (a : Nat × Int) => ⟨[(0, .c (.t (.sl false 1 xs))), (1, .c (.t (.sl false 1 ys))), (4, .c (.t (.bool false))), (12, .c (.t (.int .i64 (ln xs)))), (13, .c (.t (.int .i64 a.2)))], [], [], [], [], []⟩)
      (fun a => a.1 ≤ l.length ∧ a.2 = I a.1 ∧ l.take a.1 = m.take a.1) (fun a => l.length - a.1) (0, 0) ⟨by simp, rfl, rfl⟩ rfl ?_
    rintro ⟨k, i⟩ ⟨hk, hi, ht⟩
    simp only at hk hi ht
    cbv
    split
    · rename_i hlt
      simp only [F.lss, hlen, decide_eq_true_eq, hi] at hlt
      have hkl : k < l.length := by simp only [I] at hlt; omega
      have hkm : k < m.length := by omega
      have hg := hget k i hi hkl
      have hg' := hget' k i hi hkm
      have hst : l[k] = m[k] → l.take (k + 1) = m.take (k + 1) := take_eq_succ ht hkl hkm
      have heq : l = m → l[k] = m[k] := fun e => by subst e; rfl
      have hfx := hf.2 l[k] (List.getElem_mem hkl)
      generalize l[k] = x at hg hst heq hfx
      generalize m[k] = y at hg' hst heq
      change idx xs i = some [.int .i64 x] at hg
      change idx ys i = some [.int .i64 y] at hg'
      cbv
      rw [hg]
      cbv
      rw [hg']
      cbv
      cases h : cm .neq x y
      case true =>
        rw [F.neq] at h
        simp only [decide_eq_true_eq] at h
        have h' : ¬ x = y := h
        cbv
        exact ⟨by rw [hr, same_false.2 fun e => h' (heq e)], trivial⟩
      case false =>
        rw [F.neq] at h
        simp only [decide_eq_false_iff_not, Decidable.not_not] at h
        cbv
        refine ⟨(k + 1, ar .add .i64 i 1), ⟨by simp only; omega, ?_, hst h⟩, by simp only; omega, rfl⟩
        simp only [F.add, hi, IntKind.wrap_i64, I]; omega
    · rename_i hlt
      simp only [F.lss, hlen, decide_eq_false_iff_not, hi] at hlt
      have hkl : k = l.length := by simp only [I] at hlt; omega
      subst hkl
      rw [List.take_length, hlm, List.take_length] at ht
      cbv
      exact ⟨by rw [hr, same_iff.2 ht], trivial⟩

theorem q_iEqExprs {l m : List Expr} {xs ys : List (List T)} (hx : rows false l = xs) (hy : rows false m = ys) (hf : finL l)
    (ih : ∀ x ∈ l, ∀ {x' : Expr} {y y' : List (List T)}, rows false x.args = y → rows false x'.args = y' → G.fin x → Returns E 60 [.agg [.t (.int .i64 x.kind), .t (.str x.name), .t (.sl false 3 y)], .agg [.t (.int .i64 x'.kind), .t (.str x'.name), .t (.sl false 3 y')]] [] (.c (.t (.bool (same x x')))) []) :
    Returns E 95 [.c (.t (.sl false 3 xs)), .c (.t (.sl false 3 ys)), .c (.clo 60 [])] [] (.c (.t (.bool (same l m)))) [] := by
  refine fn_walk tb [0, 1, 2, 6, 7, 8, 9, 14, 15, 16, 17, 18, 30] (fn := Try.f95) hmix htb Try.func95 rfl (by kernel_rfl) (by kernel_rfl) (Nat.le_of_ble_eq_true (by kernel_rfl)) rfl ?_
  intro ar cm sc bc nt ng ln sz tn idx get set vw rep nf R r hπ hR hr
  have F := PF.of hπ
  have hlen : ln xs = I l.length := by rw [F.ln, ← hx, rows_length]
  have hlen' : ln ys = I m.length := by rw [F.ln, ← hy, rows_length]
  have hl : l.length ≤ 9223372036854775807 := hf.1
  have hget : ∀ (k : Nat) (i : Int), i = I k → (hk : k < l.length) → idx xs i = some (G.cells false l[k]) := fun k i hi hk => by rw [F.idx, ← hx, rows_get, hi, I]; simp [hk]
  have hget' : ∀ (k : Nat) (i : Int), i = I k → (hk : k < m.length) → idx ys i = some (G.cells false m[k]) := fun k i hi hk => by rw [F.idx, ← hy, rows_get, hi, I]; simp [hk]
  cbv
  split
  · rename_i h
    simp only [F.neq, hlen, hlen', decide_eq_true_eq] at h
    cbv
    exact ⟨by rw [hr, same_false.2 fun e => h (by rw [e])], trivial⟩
  · rename_i h
    simp only [F.neq, hlen, hlen', decide_eq_false_iff_not, Decidable.not_not] at h
    have hlm : l.length = m.length := by simp only [I] at h; omega
    cbv
    refine aloop_inv [0, 1, 2, 6, 15, 16, 17] [] (fun (a : Nat × Int) => ⟨[(0, .c (.t (.sl false 3 xs))), (1, .c (.t (.sl false 3 ys))), (2, .c (.clo 60 [])), (6, .c (.t (.bool false))), (15, .c (.t (.sl false 3 xs))), (16, .c (.t (.int .i64 (ln xs)))), (17, .c (.t (.int .i64 a.2)))], [], [], [], [], []⟩)
      (fun a => a.1 ≤ l.length ∧ a.2 = I a.1 ∧ l.take a.1 = m.take a.1) (fun a => l.length - a.1) (0, 0) ⟨by simp, rfl, rfl⟩ rfl ?_
    rintro ⟨k, i⟩ ⟨hk, hi, ht⟩
    simp only at hk hi ht
    cbv
    split
    · rename_i hlt
      simp only [F.lss, hlen, decide_eq_true_eq, hi] at hlt
      have hkl : k < l.length := by simp only [I] at hlt; omega
      have hkm : k < m.length := by omega
      have hg := hget k i hi hkl
      have hg' := hget' k i hi hkm
      have hst : l[k] = m[k] → l.take (k + 1) = m.take (k + 1) := take_eq_succ ht hkl hkm
      have heq : l = m → l[k] = m[k] := fun e => by subst e; rfl
      have hfx := hf.2 l[k] (List.getElem_mem hkl)
      have ih1 := @ih l[k] (List.getElem_mem hkl)
      generalize l[k] = x at hg hst heq hfx ih1
      generalize m[k] = y at hg' hst heq
      obtain ⟨x0, x1, x2⟩ := x
      obtain ⟨w0, w1, w2⟩ := y
      simp only [Expr.cells] at hg hg'
      generalize hxx2 : rows false x2 = yx2 at hg
      generalize hxw2 : rows false w2 = yw2 at hg'
      cbv
      rw [hg]
      cbv
      rw [hg']
      cbv
      have hc := ih1 (x' := ⟨w0, w1, w2⟩) hxx2 hxw2 hfx
      generalize hv : same _ _ = v at hc
      refine ⟨_, (hR ▸ hc : R 60 _ _ _ _), ?_⟩
      cbv
      rw [F.nt]
      cases v
      · cbv
        exact ⟨by rw [hr, same_false.2 fun e => same_false.1 hv (heq e)], trivial⟩
      · cbv
        refine ⟨(k + 1, ar .add .i64 i 1), ⟨by simp only; omega, ?_, hst (same_iff.1 hv)⟩, by simp only; omega, rfl⟩
        simp only [F.add, hi, IntKind.wrap_i64, I]; omega
    · rename_i hlt
      simp only [F.lss, hlen, decide_eq_false_iff_not, hi] at hlt
      have hkl : k = l.length := by simp only [I] at hlt; omega
      subst hkl
      rw [List.take_length, hlm, List.take_length] at ht
      cbv
      exact ⟨by rw [hr, same_iff.2 ht], trivial⟩

theorem d_iEqExpr {a0 : Int} {a1 : ByteArray} {a2 : List Expr} {b0 : Int} {b1 : ByteArray} {b2 : List Expr} {xa2 : List (List T)} (hxa2 : rows false a2 = xa2) {xb2 : List (List T)} (hxb2 : rows false b2 = xb2) (hf : G.fin (⟨a0, a1, a2⟩ : Expr))
    (ih : Returns E 95 [.c (.t (.sl false 3 xa2)), .c (.t (.sl false 3 xb2)), .c (.clo 60 [])] [] (.c (.t (.bool (same a2 b2)))) []) :
    Returns E 60 [.agg [.t (.int .i64 a0), .t (.str a1), .t (.sl false 3 xa2)], .agg [.t (.int .i64 b0), .t (.str b1), .t (.sl false 3 xb2)]] [] (.c (.t (.bool (same (⟨a0, a1, a2⟩ : Expr) (⟨b0, b1, b2⟩ : Expr))))) [] := by
  refine fn_walk tb [0, 1, 2, 3, 4] (fn := Try.f60) hmix htb Try.func60 rfl (by kernel_rfl) (by kernel_rfl) (Nat.le_of_ble_eq_true (by kernel_rfl)) rfl ?_
  intro ar cm sc bc nt ng ln sz tn idx get set vw rep nf R r hπ hR hr
  have F := PF.of hπ
  have hfx := hf
  rw [Expr.fin] at hfx
  obtain ⟨hf1, hf2⟩ := hfx
  have hinj : (⟨a0, a1, a2⟩ : Expr) = (⟨b0, b1, b2⟩ : Expr) → a0 = b0 ∧ a1 = b1 ∧ a2 = b2 := fun e => by cases e; simp
  have hmk : a0 = b0 ∧ a1 = b1 ∧ a2 = b2 → (⟨a0, a1, a2⟩ : Expr) = (⟨b0, b1, b2⟩ : Expr) := fun e => by obtain ⟨e0, e1, e2⟩ := e; cases e0; cases e1; cases e2; rfl
  generalize (⟨a0, a1, a2⟩ : Expr) = A at hinj hmk hr hf
  generalize (⟨b0, b1, b2⟩ : Expr) = B at hinj hmk hr
  cbv
  cases f0 : cm .eql a0 b0
  case false =>
    rw [F.eql] at f0
    simp only [decide_eq_false_iff_not] at f0
    have f0' : ¬ a0 = b0 := f0
    cbv
    exact ⟨by rw [hr, same_false.2 fun e => f0' (hinj e).1], trivial⟩
  case true =>
  rw [F.eql] at f0
  simp only [decide_eq_true_eq] at f0
  cbv
  cases f1 : sc .eql a1 b1
  case false =>
    rw [F.seql] at f1
    simp only [decide_eq_false_iff_not] at f1
    have f1' : ¬ a1 = b1 := f1
    cbv
    exact ⟨by rw [hr, same_false.2 fun e => f1' (hinj e).2.1], trivial⟩
  case true =>
  rw [F.seql] at f1
  simp only [decide_eq_true_eq] at f1
  cbv
  have hc := ih
  generalize f2 : same _ _ = v2 at hc
  refine ⟨_, (hR ▸ hc : R 95 _ _ _ _), ?_⟩
  cbv
  cases v2
  case false =>
    rw [same_false] at f2
    cbv
    exact ⟨by rw [hr, same_false.2 fun e => f2 (hinj e).2.2], trivial⟩
  case true =>
  rw [same_iff] at f2
  cbv
  exact ⟨by rw [hr, same_iff.2 (hmk ⟨f0, f1, f2⟩)], trivial⟩

theorem e_iEqExpr : ∀ x : Expr, ∀ {x' : Expr} {y y' : List (List T)}, rows false x.args = y → rows false x'.args = y' → G.fin x → Returns E 60 [.agg [.t (.int .i64 x.kind), .t (.str x.name), .t (.sl false 3 y)], .agg [.t (.int .i64 x'.kind), .t (.str x'.name), .t (.sl false 3 y')]] [] (.c (.t (.bool (same x x')))) [] := by
  refine Expr.ind fun k n l0 ih => ?_
  intro x' y y' hy hy' hf
  obtain ⟨k', n', bs⟩ := x'
  exact d_iEqExpr hy hy' hf (q_iEqExprs hy hy' ((Expr.fin _).1 hf).2 ih)

theorem c_iEqExpr {a0 : Int} {a1 : ByteArray} {a2 : List Expr} {b0 : Int} {b1 : ByteArray} {b2 : List Expr} {xa2 : List (List T)} (hxa2 : rows false a2 = xa2) {xb2 : List (List T)} (hxb2 : rows false b2 = xb2) (hf : G.fin (⟨a0, a1, a2⟩ : Expr)) :
    Returns E 60 [.agg [.t (.int .i64 a0), .t (.str a1), .t (.sl false 3 xa2)], .agg [.t (.int .i64 b0), .t (.str b1), .t (.sl false 3 xb2)]] [] (.c (.t (.bool (same (⟨a0, a1, a2⟩ : Expr) (⟨b0, b1, b2⟩ : Expr))))) [] := e_iEqExpr (⟨a0, a1, a2⟩ : Expr) (x' := (⟨b0, b1, b2⟩ : Expr)) hxa2 hxb2 hf

theorem c_iEqRule {a0 : ByteArray} {a1 : ByteArray} {a2 : List ByteArray} {a3 : List ByteArray} {a4 : Int} {a5 : ByteArray} {a6 : List Expr} {b0 : ByteArray} {b1 : ByteArray} {b2 : List ByteArray} {b3 : List ByteArray} {b4 : Int} {b5 : ByteArray} {b6 : List Expr} {xa2 : List (List T)} (hxa2 : rows false a2 = xa2) {xa3 : List (List T)} (hxa3 : rows false a3 = xa3) {xa6 : List (List T)} (hxa6 : rows false a6 = xa6) {xb2 : List (List T)} (hxb2 : rows false b2 = xb2) {xb3 : List (List T)} (hxb3 : rows false b3 = xb3) {xb6 : List (List T)} (hxb6 : rows false b6 = xb6) (hf : G.fin (⟨a0, a1, a2, a3, ⟨a4, a5, a6⟩⟩ : Rule)) :
    Returns E 78 [.agg [.t (.str a0), .t (.str a1), .t (.sl false 1 xa2), .t (.sl false 1 xa3), .t (.int .i64 a4), .t (.str a5), .t (.sl false 3 xa6)], .agg [.t (.str b0), .t (.str b1), .t (.sl false 1 xb2), .t (.sl false 1 xb3), .t (.int .i64 b4), .t (.str b5), .t (.sl false 3 xb6)]] [] (.c (.t (.bool (same (⟨a0, a1, a2, a3, ⟨a4, a5, a6⟩⟩ : Rule) (⟨b0, b1, b2, b3, ⟨b4, b5, b6⟩⟩ : Rule))))) [] := by
  refine fn_walk tb [0, 1, 2, 3, 4] (fn := Try.f78) hmix htb Try.func78 rfl (by kernel_rfl) (by kernel_rfl) (Nat.le_of_ble_eq_true (by kernel_rfl)) rfl ?_
  intro ar cm sc bc nt ng ln sz tn idx get set vw rep nf R r hπ hR hr
  have F := PF.of hπ
  have hfx := hf
  change a0.size ≤ BIG ∧ a1.size ≤ BIG ∧ finL a2 ∧ finL a3 ∧ G.fin (⟨a4, a5, a6⟩ : Expr) at hfx
  obtain ⟨hf0, hf1, hf2, hf3, hf4⟩ := hfx
  have hinj : (⟨a0, a1, a2, a3, ⟨a4, a5, a6⟩⟩ : Rule) = (⟨b0, b1, b2, b3, ⟨b4, b5, b6⟩⟩ : Rule) → a0 = b0 ∧ a1 = b1 ∧ a2 = b2 ∧ a3 = b3 ∧ (⟨a4, a5, a6⟩ : Expr) = ⟨b4, b5, b6⟩ := fun e => by cases e; simp
  have hmk : a0 = b0 ∧ a1 = b1 ∧ a2 = b2 ∧ a3 = b3 ∧ (⟨a4, a5, a6⟩ : Expr) = ⟨b4, b5, b6⟩ → (⟨a0, a1, a2, a3, ⟨a4, a5, a6⟩⟩ : Rule) = (⟨b0, b1, b2, b3, ⟨b4, b5, b6⟩⟩ : Rule) := fun e => by obtain ⟨e0, e1, e2, e3, e4⟩ := e; cases e0; cases e1; cases e2; cases e3; cases e4; rfl
  generalize (⟨a0, a1, a2, a3, ⟨a4, a5, a6⟩⟩ : Rule) = A at hinj hmk hr hf
  generalize (⟨b0, b1, b2, b3, ⟨b4, b5, b6⟩⟩ : Rule) = B at hinj hmk hr
  cbv
  cases f0 : sc .eql a0 b0
  case false =>
    rw [F.seql] at f0
    simp only [decide_eq_false_iff_not] at f0
    have f0' : ¬ a0 = b0 := f0
    cbv
    exact ⟨by rw [hr, same_false.2 fun e => f0' (hinj e).1], trivial⟩
  case true =>
  rw [F.seql] at f0
  simp only [decide_eq_true_eq] at f0
  cbv
  cases f1 : sc .eql a1 b1
  case false =>
    rw [F.seql] at f1
    simp only [decide_eq_false_iff_not] at f1
    have f1' : ¬ a1 = b1 := f1
    cbv
    exact ⟨by rw [hr, same_false.2 fun e => f1' (hinj e).2.1], trivial⟩
  case true =>
  rw [F.seql] at f1
  simp only [decide_eq_true_eq] at f1
  cbv
  have hc := c_sEqStr hxa2 hxb2 hf2
  generalize f2 : same _ _ = v2 at hc
  refine ⟨_, (hR ▸ hc : R 79 _ _ _ _), ?_⟩
  cbv
  cases v2
  case false =>
    rw [same_false] at f2
    cbv
    exact ⟨by rw [hr, same_false.2 fun e => f2 (hinj e).2.2.1], trivial⟩
  case true =>
  rw [same_iff] at f2
  cbv
  have hc := c_sEqStr hxa3 hxb3 hf3
  generalize f3 : same _ _ = v3 at hc
  refine ⟨_, (hR ▸ hc : R 79 _ _ _ _), ?_⟩
  cbv
  cases v3
  case false =>
    rw [same_false] at f3
    cbv
    exact ⟨by rw [hr, same_false.2 fun e => f3 (hinj e).2.2.2.1], trivial⟩
  case true =>
  rw [same_iff] at f3
  cbv
  have hc := c_iEqExpr (b0 := b4) (b1 := b5) (b2 := b6) hxa6 hxb6 hf4
  generalize f4 : same _ _ = v4 at hc
  refine ⟨_, (hR ▸ hc : R 60 _ _ _ _), ?_⟩
  cbv
  cases v4
  case false =>
    rw [same_false] at f4
    cbv
    exact ⟨by rw [hr, same_false.2 fun e => f4 (hinj e).2.2.2.2], trivial⟩
  case true =>
  rw [same_iff] at f4
  cbv
  exact ⟨by rw [hr, same_iff.2 (hmk ⟨f0, f1, f2, f3, f4⟩)], trivial⟩

theorem c_iEqRules {l m : List Rule} {xs ys : List (List T)} (hx : rows false l = xs) (hy : rows false m = ys) (hf : finL l) :
    Returns E 77 [.c (.t (.sl false 7 xs)), .c (.t (.sl false 7 ys)), .c (.clo 78 [])] [] (.c (.t (.bool (same l m)))) [] := by
  refine fn_walk tb [0, 1, 2, 6, 7, 8, 9, 14, 15, 16, 17, 18, 30] (fn := Try.f77) hmix htb Try.func77 rfl (by kernel_rfl) (by kernel_rfl) (Nat.le_of_ble_eq_true (by kernel_rfl)) rfl ?_
  intro ar cm sc bc nt ng ln sz tn idx get set vw rep nf R r hπ hR hr
  have F := PF.of hπ
  have hlen : ln xs = I l.length := by rw [F.ln, ← hx, rows_length]
  have hlen' : ln ys = I m.length := by rw [F.ln, ← hy, rows_length]
  have hl : l.length ≤ 9223372036854775807 := hf.1
  have hget : ∀ (k : Nat) (i : Int), i = I k → (hk : k < l.length) → idx xs i = some (G.cells false l[k]) := fun k i hi hk => by rw [F.idx, ← hx, rows_get, hi, I]; simp [hk]
  have hget' : ∀ (k : Nat) (i : Int), i = I k → (hk : k < m.length) → idx ys i = some (G.cells false m[k]) := fun k i hi hk => by rw [F.idx, ← hy, rows_get, hi, I]; simp [hk]
  cbv
  split
  · rename_i h
    simp only [F.neq, hlen, hlen', decide_eq_true_eq] at h
    cbv
    exact ⟨by rw [hr, same_false.2 fun e => h (by rw [e])], trivial⟩
  · rename_i h
    simp only [F.neq, hlen, hlen', decide_eq_false_iff_not, Decidable.not_not] at h
    have hlm : l.length = m.length := by simp only [I] at h; omega
    cbv
    refine aloop_inv [0, 1, 2, 6, 15, 16, 17] [] (fun (a : Nat × Int) => ⟨[(0, .c (.t (.sl false 7 xs))), (1, .c (.t (.sl false 7 ys))), (2, .c (.clo 78 [])), (6, .c (.t (.bool false))), (15, .c (.t (.sl false 7 xs))), (16, .c (.t (.int .i64 (ln xs)))), (17, .c (.t (.int .i64 a.2)))], [], [], [], [], []⟩)
      (fun a => a.1 ≤ l.length ∧ a.2 = I a.1 ∧ l.take a.1 = m.take a.1) (fun a => l.length - a.1) (0, 0) ⟨by simp, rfl, rfl⟩ rfl ?_
    rintro ⟨k, i⟩ ⟨hk, hi, ht⟩
    simp only at hk hi ht
    cbv
    split
    · rename_i hlt
      simp only [F.lss, hlen, decide_eq_true_eq, hi] at hlt
      have hkl : k < l.length := by simp only [I] at hlt; omega
      have hkm : k < m.length := by omega
      have hg := hget k i hi hkl
      have hg' := hget' k i hi hkm
      have hst : l[k] = m[k] → l.take (k + 1) = m.take (k + 1) := take_eq_succ ht hkl hkm
      have heq : l = m → l[k] = m[k] := fun e => by subst e; rfl
      have hfx := hf.2 l[k] (List.getElem_mem hkl)
      generalize l[k] = x at hg hst heq hfx
      generalize m[k] = y at hg' hst heq
      obtain ⟨x0, x1, x2, x3, ⟨x4, x5, x6⟩⟩ := x
      obtain ⟨w0, w1, w2, w3, ⟨w4, w5, w6⟩⟩ := y
      simp only [Rule.cells] at hg hg'
      generalize hxx2 : rows false x2 = yx2 at hg
      generalize hxx3 : rows false x3 = yx3 at hg
      generalize hxx6 : rows false x6 = yx6 at hg
      generalize hxw2 : rows false w2 = yw2 at hg'
      generalize hxw3 : rows false w3 = yw3 at hg'
      generalize hxw6 : rows false w6 = yw6 at hg'
      cbv
      rw [hg]
      cbv
      rw [hg']
      cbv
      have hc := c_iEqRule (b0 := w0) (b1 := w1) (b2 := w2) (b3 := w3) (b4 := w4) (b5 := w5) (b6 := w6) hxx2 hxx3 hxx6 hxw2 hxw3 hxw6 hfx
      generalize hv : same _ _ = v at hc
      refine ⟨_, (hR ▸ hc : R 78 _ _ _ _), ?_⟩
      cbv
      rw [F.nt]
      cases v
      · cbv
        exact ⟨by rw [hr, same_false.2 fun e => same_false.1 hv (heq e)], trivial⟩
      · cbv
        refine ⟨(k + 1, ar .add .i64 i 1), ⟨by simp only; omega, ?_, hst (same_iff.1 hv)⟩, by simp only; omega, rfl⟩
        simp only [F.add, hi, IntKind.wrap_i64, I]; omega
    · rename_i hlt
      simp only [F.lss, hlen, decide_eq_false_iff_not, hi] at hlt
      have hkl : k = l.length := by simp only [I] at hlt; omega
      subst hkl
      rw [List.take_length, hlm, List.take_length] at ht
      cbv
      exact ⟨by rw [hr, same_iff.2 ht], trivial⟩

theorem c_iEqProgram {a0 : List Rule} {b0 : List Rule} {xa0 : List (List T)} (hxa0 : rows false a0 = xa0) {xb0 : List (List T)} (hxb0 : rows false b0 = xb0) (hf : G.fin (⟨a0⟩ : Program)) :
    Returns E 35 [.agg [.t (.sl false 7 xa0)], .agg [.t (.sl false 7 xb0)]] [] (.c (.t (.bool (same (⟨a0⟩ : Program) (⟨b0⟩ : Program))))) [] := by
  refine fn_walk tb [0, 1, 2, 3, 4] (fn := Try.f35) hmix htb Try.func35 rfl (by kernel_rfl) (by kernel_rfl) (Nat.le_of_ble_eq_true (by kernel_rfl)) rfl ?_
  intro ar cm sc bc nt ng ln sz tn idx get set vw rep nf R r hπ hR hr
  have F := PF.of hπ
  have hfx := hf
  change finL a0 at hfx
  have hf0 := hfx
  have hinj : (⟨a0⟩ : Program) = (⟨b0⟩ : Program) → a0 = b0 := fun e => by cases e; simp
  have hmk : a0 = b0 → (⟨a0⟩ : Program) = (⟨b0⟩ : Program) := fun e => by have e0 := e; cases e0; rfl
  generalize (⟨a0⟩ : Program) = A at hinj hmk hr hf
  generalize (⟨b0⟩ : Program) = B at hinj hmk hr
  cbv
  have hc := c_iEqRules hxa0 hxb0 hf0
  generalize f0 : same _ _ = v0 at hc
  refine ⟨_, (hR ▸ hc : R 77 _ _ _ _), ?_⟩
  cbv
  cases v0
  case false =>
    rw [same_false] at f0
    cbv
    exact ⟨by rw [hr, same_false.2 fun e => f0 (hinj e)], trivial⟩
  case true =>
  rw [same_iff] at f0
  cbv
  exact ⟨by rw [hr, same_iff.2 (hmk f0)], trivial⟩

theorem c_iEqResidual {a0 : List Rule} {a1 : Int} {a2 : ByteArray} {a3 : List Expr} {b0 : List Rule} {b1 : Int} {b2 : ByteArray} {b3 : List Expr} {xa0 : List (List T)} (hxa0 : rows false a0 = xa0) {xa3 : List (List T)} (hxa3 : rows false a3 = xa3) {xb0 : List (List T)} (hxb0 : rows false b0 = xb0) {xb3 : List (List T)} (hxb3 : rows false b3 = xb3) (hf : G.fin (⟨⟨a0⟩, ⟨a1, a2, a3⟩⟩ : Residual)) :
    Returns E 62 [.agg [.t (.sl false 7 xa0), .t (.int .i64 a1), .t (.str a2), .t (.sl false 3 xa3)], .agg [.t (.sl false 7 xb0), .t (.int .i64 b1), .t (.str b2), .t (.sl false 3 xb3)]] [] (.c (.t (.bool (same (⟨⟨a0⟩, ⟨a1, a2, a3⟩⟩ : Residual) (⟨⟨b0⟩, ⟨b1, b2, b3⟩⟩ : Residual))))) [] := by
  refine fn_walk tb [0, 1, 2, 3, 4] (fn := Try.f62) hmix htb Try.func62 rfl (by kernel_rfl) (by kernel_rfl) (Nat.le_of_ble_eq_true (by kernel_rfl)) rfl ?_
  intro ar cm sc bc nt ng ln sz tn idx get set vw rep nf R r hπ hR hr
  have F := PF.of hπ
  have hfx := hf
  change G.fin (⟨a0⟩ : Program) ∧ G.fin (⟨a1, a2, a3⟩ : Expr) at hfx
  obtain ⟨hf0, hf1⟩ := hfx
  have hinj : (⟨⟨a0⟩, ⟨a1, a2, a3⟩⟩ : Residual) = (⟨⟨b0⟩, ⟨b1, b2, b3⟩⟩ : Residual) → (⟨a0⟩ : Program) = ⟨b0⟩ ∧ (⟨a1, a2, a3⟩ : Expr) = ⟨b1, b2, b3⟩ := fun e => by cases e; simp
  have hmk : (⟨a0⟩ : Program) = ⟨b0⟩ ∧ (⟨a1, a2, a3⟩ : Expr) = ⟨b1, b2, b3⟩ → (⟨⟨a0⟩, ⟨a1, a2, a3⟩⟩ : Residual) = (⟨⟨b0⟩, ⟨b1, b2, b3⟩⟩ : Residual) := fun e => by obtain ⟨e0, e1⟩ := e; cases e0; cases e1; rfl
  generalize (⟨⟨a0⟩, ⟨a1, a2, a3⟩⟩ : Residual) = A at hinj hmk hr hf
  generalize (⟨⟨b0⟩, ⟨b1, b2, b3⟩⟩ : Residual) = B at hinj hmk hr
  cbv
  have hc := c_iEqProgram (b0 := b0) hxa0 hxb0 hf0
  generalize f0 : same _ _ = v0 at hc
  refine ⟨_, (hR ▸ hc : R 35 _ _ _ _), ?_⟩
  cbv
  cases v0
  case false =>
    rw [same_false] at f0
    cbv
    exact ⟨by rw [hr, same_false.2 fun e => f0 (hinj e).1], trivial⟩
  case true =>
  rw [same_iff] at f0
  cbv
  have hc := c_iEqExpr (b0 := b1) (b1 := b2) (b2 := b3) hxa3 hxb3 hf1
  generalize f1 : same _ _ = v1 at hc
  refine ⟨_, (hR ▸ hc : R 60 _ _ _ _), ?_⟩
  cbv
  cases v1
  case false =>
    rw [same_false] at f1
    cbv
    exact ⟨by rw [hr, same_false.2 fun e => f1 (hinj e).2], trivial⟩
  case true =>
  rw [same_iff] at f1
  cbv
  exact ⟨by rw [hr, same_iff.2 (hmk ⟨f0, f1⟩)], trivial⟩

theorem c_iEqBinding {a0 : ByteArray} {a1 : Int} {a2 : ByteArray} {a3 : List Expr} {b0 : ByteArray} {b1 : Int} {b2 : ByteArray} {b3 : List Expr} {xa3 : List (List T)} (hxa3 : rows false a3 = xa3) {xb3 : List (List T)} (hxb3 : rows false b3 = xb3) (hf : G.fin (⟨a0, ⟨a1, a2, a3⟩⟩ : Binding)) :
    Returns E 144 [.agg [.t (.str a0), .t (.int .i64 a1), .t (.str a2), .t (.sl false 3 xa3)], .agg [.t (.str b0), .t (.int .i64 b1), .t (.str b2), .t (.sl false 3 xb3)]] [] (.c (.t (.bool (same (⟨a0, ⟨a1, a2, a3⟩⟩ : Binding) (⟨b0, ⟨b1, b2, b3⟩⟩ : Binding))))) [] := by
  refine fn_walk tb [0, 1, 2, 3, 4] (fn := Try.f144) hmix htb Try.func144 rfl (by kernel_rfl) (by kernel_rfl) (Nat.le_of_ble_eq_true (by kernel_rfl)) rfl ?_
  intro ar cm sc bc nt ng ln sz tn idx get set vw rep nf R r hπ hR hr
  have F := PF.of hπ
  have hfx := hf
  change a0.size ≤ BIG ∧ G.fin (⟨a1, a2, a3⟩ : Expr) at hfx
  obtain ⟨hf0, hf1⟩ := hfx
  have hinj : (⟨a0, ⟨a1, a2, a3⟩⟩ : Binding) = (⟨b0, ⟨b1, b2, b3⟩⟩ : Binding) → a0 = b0 ∧ (⟨a1, a2, a3⟩ : Expr) = ⟨b1, b2, b3⟩ := fun e => by cases e; simp
  have hmk : a0 = b0 ∧ (⟨a1, a2, a3⟩ : Expr) = ⟨b1, b2, b3⟩ → (⟨a0, ⟨a1, a2, a3⟩⟩ : Binding) = (⟨b0, ⟨b1, b2, b3⟩⟩ : Binding) := fun e => by obtain ⟨e0, e1⟩ := e; cases e0; cases e1; rfl
  generalize (⟨a0, ⟨a1, a2, a3⟩⟩ : Binding) = A at hinj hmk hr hf
  generalize (⟨b0, ⟨b1, b2, b3⟩⟩ : Binding) = B at hinj hmk hr
  cbv
  cases f0 : sc .eql a0 b0
  case false =>
    rw [F.seql] at f0
    simp only [decide_eq_false_iff_not] at f0
    have f0' : ¬ a0 = b0 := f0
    cbv
    exact ⟨by rw [hr, same_false.2 fun e => f0' (hinj e).1], trivial⟩
  case true =>
  rw [F.seql] at f0
  simp only [decide_eq_true_eq] at f0
  cbv
  have hc := c_iEqExpr (b0 := b1) (b1 := b2) (b2 := b3) hxa3 hxb3 hf1
  generalize f1 : same _ _ = v1 at hc
  refine ⟨_, (hR ▸ hc : R 60 _ _ _ _), ?_⟩
  cbv
  cases v1
  case false =>
    rw [same_false] at f1
    cbv
    exact ⟨by rw [hr, same_false.2 fun e => f1 (hinj e).2], trivial⟩
  case true =>
  rw [same_iff] at f1
  cbv
  exact ⟨by rw [hr, same_iff.2 (hmk ⟨f0, f1⟩)], trivial⟩

theorem p_iEqBindings {l m : List Binding} {xs ys : List (List T)} (hx : rows false l = xs) (hy : rows false m = ys) (hf : finL l) :
    Returns E 143 [.c (.t (.sl false 4 xs)), .c (.t (.sl false 4 ys)), .c (.clo 144 [])] [] (.c (.t (.bool (same l m)))) [] := by
  refine fn_walk tb [0, 1, 2, 6, 7, 8, 9, 14, 15, 16, 17, 18, 30] (fn := Try.f143) hmix htb Try.func143 rfl (by kernel_rfl) (by kernel_rfl) (Nat.le_of_ble_eq_true (by kernel_rfl)) rfl ?_
  intro ar cm sc bc nt ng ln sz tn idx get set vw rep nf R r hπ hR hr
  have F := PF.of hπ
  have hlen : ln xs = I l.length := by rw [F.ln, ← hx, rows_length]
  have hlen' : ln ys = I m.length := by rw [F.ln, ← hy, rows_length]
  have hl : l.length ≤ 9223372036854775807 := hf.1
  have hget : ∀ (k : Nat) (i : Int), i = I k → (hk : k < l.length) → idx xs i = some (G.cells false l[k]) := fun k i hi hk => by rw [F.idx, ← hx, rows_get, hi, I]; simp [hk]
  have hget' : ∀ (k : Nat) (i : Int), i = I k → (hk : k < m.length) → idx ys i = some (G.cells false m[k]) := fun k i hi hk => by rw [F.idx, ← hy, rows_get, hi, I]; simp [hk]
  cbv
  split
  · rename_i h
    simp only [F.neq, hlen, hlen', decide_eq_true_eq] at h
    cbv
    exact ⟨by rw [hr, same_false.2 fun e => h (by rw [e])], trivial⟩
  · rename_i h
    simp only [F.neq, hlen, hlen', decide_eq_false_iff_not, Decidable.not_not] at h
    have hlm : l.length = m.length := by simp only [I] at h; omega
    cbv
    refine aloop_inv [0, 1, 2, 6, 15, 16, 17] [] (fun (a : Nat × Int) => ⟨[(0, .c (.t (.sl false 4 xs))), (1, .c (.t (.sl false 4 ys))), (2, .c (.clo 144 [])), (6, .c (.t (.bool false))), (15, .c (.t (.sl false 4 xs))), (16, .c (.t (.int .i64 (ln xs)))), (17, .c (.t (.int .i64 a.2)))], [], [], [], [], []⟩)
      (fun a => a.1 ≤ l.length ∧ a.2 = I a.1 ∧ l.take a.1 = m.take a.1) (fun a => l.length - a.1) (0, 0) ⟨by simp, rfl, rfl⟩ rfl ?_
    rintro ⟨k, i⟩ ⟨hk, hi, ht⟩
    simp only at hk hi ht
    cbv
    split
    · rename_i hlt
      simp only [F.lss, hlen, decide_eq_true_eq, hi] at hlt
      have hkl : k < l.length := by simp only [I] at hlt; omega
      have hkm : k < m.length := by omega
      have hg := hget k i hi hkl
      have hg' := hget' k i hi hkm
      have hst : l[k] = m[k] → l.take (k + 1) = m.take (k + 1) := take_eq_succ ht hkl hkm
      have heq : l = m → l[k] = m[k] := fun e => by subst e; rfl
      have hfx := hf.2 l[k] (List.getElem_mem hkl)
      generalize l[k] = x at hg hst heq hfx
      generalize m[k] = y at hg' hst heq
      obtain ⟨x0, ⟨x1, x2, x3⟩⟩ := x
      obtain ⟨w0, ⟨w1, w2, w3⟩⟩ := y
      simp only [Binding.cells] at hg hg'
      generalize hxx3 : rows false x3 = yx3 at hg
      generalize hxw3 : rows false w3 = yw3 at hg'
      cbv
      rw [hg]
      cbv
      rw [hg']
      cbv
      have hc := c_iEqBinding (b0 := w0) (b1 := w1) (b2 := w2) (b3 := w3) hxx3 hxw3 hfx
      generalize hv : same _ _ = v at hc
      refine ⟨_, (hR ▸ hc : R 144 _ _ _ _), ?_⟩
      cbv
      rw [F.nt]
      cases v
      · cbv
        exact ⟨by rw [hr, same_false.2 fun e => same_false.1 hv (heq e)], trivial⟩
      · cbv
        refine ⟨(k + 1, ar .add .i64 i 1), ⟨by simp only; omega, ?_, hst (same_iff.1 hv)⟩, by simp only; omega, rfl⟩
        simp only [F.add, hi, IntKind.wrap_i64, I]; omega
    · rename_i hlt
      simp only [F.lss, hlen, decide_eq_false_iff_not, hi] at hlt
      have hkl : k = l.length := by simp only [I] at hlt; omega
      subst hkl
      rw [List.take_length, hlm, List.take_length] at ht
      cbv
      exact ⟨by rw [hr, same_iff.2 ht], trivial⟩

theorem c_iEqBindings {l m : List Binding} {xs ys : List (List T)} (hx : rows false l = xs) (hy : rows false m = ys) (hf : finL l) :
    Returns E 121 [.c (.t (.sl false 4 xs)), .c (.t (.sl false 4 ys))] [] (.c (.t (.bool (same l m)))) [] := by
  refine fn_walk tb [0, 1, 4] (fn := Try.f121) hmix htb Try.func121 rfl (by kernel_rfl) (by kernel_rfl) (Nat.le_of_ble_eq_true (by kernel_rfl)) rfl ?_
  intro ar cm sc bc nt ng ln sz tn idx get set vw rep nf R r hπ hR hr
  have F := PF.of hπ
  cbv
  have hc := p_iEqBindings hx hy hf
  generalize hv : same _ _ = v at hc hr
  refine ⟨_, (hR ▸ hc : R 143 _ _ _ _), ?_⟩
  cbv
  exact ⟨hr.symm, trivial⟩

theorem c_iEqNode {a0 : Int} {a1 : Int} {a2 : ByteArray} {a3 : List Expr} {a4 : Int} {a5 : List Int} {a6 : ByteArray} {a7 : ByteArray} {a8 : List ByteArray} {a9 : List Binding} {a10 : Int} {b0 : Int} {b1 : Int} {b2 : ByteArray} {b3 : List Expr} {b4 : Int} {b5 : List Int} {b6 : ByteArray} {b7 : ByteArray} {b8 : List ByteArray} {b9 : List Binding} {b10 : Int} {xa3 : List (List T)} (hxa3 : rows false a3 = xa3) {xa5 : List (List T)} (hxa5 : rows false a5 = xa5) {xa8 : List (List T)} (hxa8 : rows false a8 = xa8) {xa9 : List (List T)} (hxa9 : rows false a9 = xa9) {xb3 : List (List T)} (hxb3 : rows false b3 = xb3) {xb5 : List (List T)} (hxb5 : rows false b5 = xb5) {xb8 : List (List T)} (hxb8 : rows false b8 = xb8) {xb9 : List (List T)} (hxb9 : rows false b9 = xb9) (hf : G.fin (⟨a0, ⟨a1, a2, a3⟩, a4, a5, a6, a7, a8, a9, a10⟩ : Node)) :
    Returns E 97 [.agg [.t (.int .i64 a0), .t (.int .i64 a1), .t (.str a2), .t (.sl false 3 xa3), .t (.int .i64 a4), .t (.sl false 1 xa5), .t (.str a6), .t (.str a7), .t (.sl false 1 xa8), .t (.sl false 4 xa9), .t (.int .i64 a10)], .agg [.t (.int .i64 b0), .t (.int .i64 b1), .t (.str b2), .t (.sl false 3 xb3), .t (.int .i64 b4), .t (.sl false 1 xb5), .t (.str b6), .t (.str b7), .t (.sl false 1 xb8), .t (.sl false 4 xb9), .t (.int .i64 b10)]] [] (.c (.t (.bool (same (⟨a0, ⟨a1, a2, a3⟩, a4, a5, a6, a7, a8, a9, a10⟩ : Node) (⟨b0, ⟨b1, b2, b3⟩, b4, b5, b6, b7, b8, b9, b10⟩ : Node))))) [] := by
  refine fn_walk tb [0, 1, 2, 3, 4] (fn := Try.f97) hmix htb Try.func97 rfl (by kernel_rfl) (by kernel_rfl) (Nat.le_of_ble_eq_true (by kernel_rfl)) rfl ?_
  intro ar cm sc bc nt ng ln sz tn idx get set vw rep nf R r hπ hR hr
  have F := PF.of hπ
  have hfx := hf
  change G.fin (⟨a1, a2, a3⟩ : Expr) ∧ finL a5 ∧ a6.size ≤ BIG ∧ a7.size ≤ BIG ∧ finL a8 ∧ finL a9 at hfx
  obtain ⟨hf1, hf3, hf4, hf5, hf6, hf7⟩ := hfx
  have hinj : (⟨a0, ⟨a1, a2, a3⟩, a4, a5, a6, a7, a8, a9, a10⟩ : Node) = (⟨b0, ⟨b1, b2, b3⟩, b4, b5, b6, b7, b8, b9, b10⟩ : Node) → a0 = b0 ∧ (⟨a1, a2, a3⟩ : Expr) = ⟨b1, b2, b3⟩ ∧ a4 = b4 ∧ a5 = b5 ∧ a6 = b6 ∧ a7 = b7 ∧ a8 = b8 ∧ a9 = b9 ∧ a10 = b10 := fun e => by cases e; simp
  have hmk : a0 = b0 ∧ (⟨a1, a2, a3⟩ : Expr) = ⟨b1, b2, b3⟩ ∧ a4 = b4 ∧ a5 = b5 ∧ a6 = b6 ∧ a7 = b7 ∧ a8 = b8 ∧ a9 = b9 ∧ a10 = b10 → (⟨a0, ⟨a1, a2, a3⟩, a4, a5, a6, a7, a8, a9, a10⟩ : Node) = (⟨b0, ⟨b1, b2, b3⟩, b4, b5, b6, b7, b8, b9, b10⟩ : Node) := fun e => by obtain ⟨e0, e1, e2, e3, e4, e5, e6, e7, e8⟩ := e; cases e0; cases e1; cases e2; cases e3; cases e4; cases e5; cases e6; cases e7; cases e8; rfl
  generalize (⟨a0, ⟨a1, a2, a3⟩, a4, a5, a6, a7, a8, a9, a10⟩ : Node) = A at hinj hmk hr hf
  generalize (⟨b0, ⟨b1, b2, b3⟩, b4, b5, b6, b7, b8, b9, b10⟩ : Node) = B at hinj hmk hr
  cbv
  cases f0 : cm .eql a0 b0
  case false =>
    rw [F.eql] at f0
    simp only [decide_eq_false_iff_not] at f0
    have f0' : ¬ a0 = b0 := f0
    cbv
    exact ⟨by rw [hr, same_false.2 fun e => f0' (hinj e).1], trivial⟩
  case true =>
  rw [F.eql] at f0
  simp only [decide_eq_true_eq] at f0
  cbv
  have hc := c_iEqExpr (b0 := b1) (b1 := b2) (b2 := b3) hxa3 hxb3 hf1
  generalize f1 : same _ _ = v1 at hc
  refine ⟨_, (hR ▸ hc : R 60 _ _ _ _), ?_⟩
  cbv
  cases v1
  case false =>
    rw [same_false] at f1
    cbv
    exact ⟨by rw [hr, same_false.2 fun e => f1 (hinj e).2.1], trivial⟩
  case true =>
  rw [same_iff] at f1
  cbv
  cases f2 : cm .eql a4 b4
  case false =>
    rw [F.eql] at f2
    simp only [decide_eq_false_iff_not] at f2
    have f2' : ¬ a4 = b4 := f2
    cbv
    exact ⟨by rw [hr, same_false.2 fun e => f2' (hinj e).2.2.1], trivial⟩
  case true =>
  rw [F.eql] at f2
  simp only [decide_eq_true_eq] at f2
  cbv
  have hc := c_sEqInt hxa5 hxb5 hf3
  generalize f3 : same _ _ = v3 at hc
  refine ⟨_, (hR ▸ hc : R 107 _ _ _ _), ?_⟩
  cbv
  cases v3
  case false =>
    rw [same_false] at f3
    cbv
    exact ⟨by rw [hr, same_false.2 fun e => f3 (hinj e).2.2.2.1], trivial⟩
  case true =>
  rw [same_iff] at f3
  cbv
  cases f4 : sc .eql a6 b6
  case false =>
    rw [F.seql] at f4
    simp only [decide_eq_false_iff_not] at f4
    have f4' : ¬ a6 = b6 := f4
    cbv
    exact ⟨by rw [hr, same_false.2 fun e => f4' (hinj e).2.2.2.2.1], trivial⟩
  case true =>
  rw [F.seql] at f4
  simp only [decide_eq_true_eq] at f4
  cbv
  cases f5 : sc .eql a7 b7
  case false =>
    rw [F.seql] at f5
    simp only [decide_eq_false_iff_not] at f5
    have f5' : ¬ a7 = b7 := f5
    cbv
    exact ⟨by rw [hr, same_false.2 fun e => f5' (hinj e).2.2.2.2.2.1], trivial⟩
  case true =>
  rw [F.seql] at f5
  simp only [decide_eq_true_eq] at f5
  cbv
  have hc := c_sEqStr hxa8 hxb8 hf6
  generalize f6 : same _ _ = v6 at hc
  refine ⟨_, (hR ▸ hc : R 79 _ _ _ _), ?_⟩
  cbv
  cases v6
  case false =>
    rw [same_false] at f6
    cbv
    exact ⟨by rw [hr, same_false.2 fun e => f6 (hinj e).2.2.2.2.2.2.1], trivial⟩
  case true =>
  rw [same_iff] at f6
  cbv
  have hc := c_iEqBindings hxa9 hxb9 hf7
  generalize f7 : same _ _ = v7 at hc
  refine ⟨_, (hR ▸ hc : R 121 _ _ _ _), ?_⟩
  cbv
  cases v7
  case false =>
    rw [same_false] at f7
    cbv
    exact ⟨by rw [hr, same_false.2 fun e => f7 (hinj e).2.2.2.2.2.2.2.1], trivial⟩
  case true =>
  rw [same_iff] at f7
  cbv
  cases f8 : cm .eql a10 b10
  case false =>
    rw [F.eql] at f8
    simp only [decide_eq_false_iff_not] at f8
    have f8' : ¬ a10 = b10 := f8
    cbv
    exact ⟨by rw [hr, same_false.2 fun e => f8' (hinj e).2.2.2.2.2.2.2.2], trivial⟩
  case true =>
  rw [F.eql] at f8
  simp only [decide_eq_true_eq] at f8
  cbv
  exact ⟨by rw [hr, same_iff.2 (hmk ⟨f0, f1, f2, f3, f4, f5, f6, f7, f8⟩)], trivial⟩

theorem c_iEqNodes {l m : List Node} {xs ys : List (List T)} (hx : rows false l = xs) (hy : rows false m = ys) (hf : finL l) :
    Returns E 96 [.c (.t (.sl false 11 xs)), .c (.t (.sl false 11 ys)), .c (.clo 97 [])] [] (.c (.t (.bool (same l m)))) [] := by
  refine fn_walk tb [0, 1, 2, 6, 7, 8, 9, 14, 15, 16, 17, 18, 30] (fn := Try.f96) hmix htb Try.func96 rfl (by kernel_rfl) (by kernel_rfl) (Nat.le_of_ble_eq_true (by kernel_rfl)) rfl ?_
  intro ar cm sc bc nt ng ln sz tn idx get set vw rep nf R r hπ hR hr
  have F := PF.of hπ
  have hlen : ln xs = I l.length := by rw [F.ln, ← hx, rows_length]
  have hlen' : ln ys = I m.length := by rw [F.ln, ← hy, rows_length]
  have hl : l.length ≤ 9223372036854775807 := hf.1
  have hget : ∀ (k : Nat) (i : Int), i = I k → (hk : k < l.length) → idx xs i = some (G.cells false l[k]) := fun k i hi hk => by rw [F.idx, ← hx, rows_get, hi, I]; simp [hk]
  have hget' : ∀ (k : Nat) (i : Int), i = I k → (hk : k < m.length) → idx ys i = some (G.cells false m[k]) := fun k i hi hk => by rw [F.idx, ← hy, rows_get, hi, I]; simp [hk]
  cbv
  split
  · rename_i h
    simp only [F.neq, hlen, hlen', decide_eq_true_eq] at h
    cbv
    exact ⟨by rw [hr, same_false.2 fun e => h (by rw [e])], trivial⟩
  · rename_i h
    simp only [F.neq, hlen, hlen', decide_eq_false_iff_not, Decidable.not_not] at h
    have hlm : l.length = m.length := by simp only [I] at h; omega
    cbv
    refine aloop_inv [0, 1, 2, 6, 15, 16, 17] [] (fun (a : Nat × Int) => ⟨[(0, .c (.t (.sl false 11 xs))), (1, .c (.t (.sl false 11 ys))), (2, .c (.clo 97 [])), (6, .c (.t (.bool false))), (15, .c (.t (.sl false 11 xs))), (16, .c (.t (.int .i64 (ln xs)))), (17, .c (.t (.int .i64 a.2)))], [], [], [], [], []⟩)
      (fun a => a.1 ≤ l.length ∧ a.2 = I a.1 ∧ l.take a.1 = m.take a.1) (fun a => l.length - a.1) (0, 0) ⟨by simp, rfl, rfl⟩ rfl ?_
    rintro ⟨k, i⟩ ⟨hk, hi, ht⟩
    simp only at hk hi ht
    cbv
    split
    · rename_i hlt
      simp only [F.lss, hlen, decide_eq_true_eq, hi] at hlt
      have hkl : k < l.length := by simp only [I] at hlt; omega
      have hkm : k < m.length := by omega
      have hg := hget k i hi hkl
      have hg' := hget' k i hi hkm
      have hst : l[k] = m[k] → l.take (k + 1) = m.take (k + 1) := take_eq_succ ht hkl hkm
      have heq : l = m → l[k] = m[k] := fun e => by subst e; rfl
      have hfx := hf.2 l[k] (List.getElem_mem hkl)
      generalize l[k] = x at hg hst heq hfx
      generalize m[k] = y at hg' hst heq
      obtain ⟨x0, ⟨x1, x2, x3⟩, x4, x5, x6, x7, x8, x9, x10⟩ := x
      obtain ⟨w0, ⟨w1, w2, w3⟩, w4, w5, w6, w7, w8, w9, w10⟩ := y
      simp only [Node.cells] at hg hg'
      generalize hxx3 : rows false x3 = yx3 at hg
      generalize hxx5 : rows false x5 = yx5 at hg
      generalize hxx8 : rows false x8 = yx8 at hg
      generalize hxx9 : rows false x9 = yx9 at hg
      generalize hxw3 : rows false w3 = yw3 at hg'
      generalize hxw5 : rows false w5 = yw5 at hg'
      generalize hxw8 : rows false w8 = yw8 at hg'
      generalize hxw9 : rows false w9 = yw9 at hg'
      cbv
      rw [hg]
      cbv
      rw [hg']
      cbv
      have hc := c_iEqNode (b0 := w0) (b1 := w1) (b2 := w2) (b3 := w3) (b4 := w4) (b5 := w5) (b6 := w6) (b7 := w7) (b8 := w8) (b9 := w9) (b10 := w10) hxx3 hxx5 hxx8 hxx9 hxw3 hxw5 hxw8 hxw9 hfx
      generalize hv : same _ _ = v at hc
      refine ⟨_, (hR ▸ hc : R 97 _ _ _ _), ?_⟩
      cbv
      rw [F.nt]
      cases v
      · cbv
        exact ⟨by rw [hr, same_false.2 fun e => same_false.1 hv (heq e)], trivial⟩
      · cbv
        refine ⟨(k + 1, ar .add .i64 i 1), ⟨by simp only; omega, ?_, hst (same_iff.1 hv)⟩, by simp only; omega, rfl⟩
        simp only [F.add, hi, IntKind.wrap_i64, I]; omega
    · rename_i hlt
      simp only [F.lss, hlen, decide_eq_false_iff_not, hi] at hlt
      have hkl : k = l.length := by simp only [I] at hlt; omega
      subst hkl
      rw [List.take_length, hlm, List.take_length] at ht
      cbv
      exact ⟨by rw [hr, same_iff.2 ht], trivial⟩

theorem c_iEqTree {a0 : List Node} {b0 : List Node} {xa0 : List (List T)} (hxa0 : rows false a0 = xa0) {xb0 : List (List T)} (hxb0 : rows false b0 = xb0) (hf : G.fin (⟨a0⟩ : Tree)) :
    Returns E 61 [.agg [.t (.sl false 11 xa0)], .agg [.t (.sl false 11 xb0)]] [] (.c (.t (.bool (same (⟨a0⟩ : Tree) (⟨b0⟩ : Tree))))) [] := by
  refine fn_walk tb [0, 1, 2, 3, 4] (fn := Try.f61) hmix htb Try.func61 rfl (by kernel_rfl) (by kernel_rfl) (Nat.le_of_ble_eq_true (by kernel_rfl)) rfl ?_
  intro ar cm sc bc nt ng ln sz tn idx get set vw rep nf R r hπ hR hr
  have F := PF.of hπ
  have hfx := hf
  change finL a0 at hfx
  have hf0 := hfx
  have hinj : (⟨a0⟩ : Tree) = (⟨b0⟩ : Tree) → a0 = b0 := fun e => by cases e; simp
  have hmk : a0 = b0 → (⟨a0⟩ : Tree) = (⟨b0⟩ : Tree) := fun e => by have e0 := e; cases e0; rfl
  generalize (⟨a0⟩ : Tree) = A at hinj hmk hr hf
  generalize (⟨b0⟩ : Tree) = B at hinj hmk hr
  cbv
  have hc := c_iEqNodes hxa0 hxb0 hf0
  generalize f0 : same _ _ = v0 at hc
  refine ⟨_, (hR ▸ hc : R 96 _ _ _ _), ?_⟩
  cbv
  cases v0
  case false =>
    rw [same_false] at f0
    cbv
    exact ⟨by rw [hr, same_false.2 fun e => f0 (hinj e)], trivial⟩
  case true =>
  rw [same_iff] at f0
  cbv
  exact ⟨by rw [hr, same_iff.2 (hmk f0)], trivial⟩

theorem c_iEqSession {a0 : ByteArray} {a1 : Int} {a2 : ByteArray} {a3 : List Expr} {a4 : List Node} {a5 : List Rule} {a6 : Int} {a7 : ByteArray} {a8 : List Expr} {b0 : ByteArray} {b1 : Int} {b2 : ByteArray} {b3 : List Expr} {b4 : List Node} {b5 : List Rule} {b6 : Int} {b7 : ByteArray} {b8 : List Expr} {xa3 : List (List T)} (hxa3 : rows false a3 = xa3) {xa4 : List (List T)} (hxa4 : rows false a4 = xa4) {xa5 : List (List T)} (hxa5 : rows false a5 = xa5) {xa8 : List (List T)} (hxa8 : rows false a8 = xa8) {xb3 : List (List T)} (hxb3 : rows false b3 = xb3) {xb4 : List (List T)} (hxb4 : rows false b4 = xb4) {xb5 : List (List T)} (hxb5 : rows false b5 = xb5) {xb8 : List (List T)} (hxb8 : rows false b8 = xb8) (hf : G.fin (⟨a0, ⟨a1, a2, a3⟩, ⟨a4⟩, ⟨⟨a5⟩, ⟨a6, a7, a8⟩⟩⟩ : Session)) :
    Returns E 24 [.agg [.t (.str a0), .t (.int .i64 a1), .t (.str a2), .t (.sl false 3 xa3), .t (.sl false 11 xa4), .t (.sl false 7 xa5), .t (.int .i64 a6), .t (.str a7), .t (.sl false 3 xa8)], .agg [.t (.str b0), .t (.int .i64 b1), .t (.str b2), .t (.sl false 3 xb3), .t (.sl false 11 xb4), .t (.sl false 7 xb5), .t (.int .i64 b6), .t (.str b7), .t (.sl false 3 xb8)]] [] (.c (.t (.bool (same (⟨a0, ⟨a1, a2, a3⟩, ⟨a4⟩, ⟨⟨a5⟩, ⟨a6, a7, a8⟩⟩⟩ : Session) (⟨b0, ⟨b1, b2, b3⟩, ⟨b4⟩, ⟨⟨b5⟩, ⟨b6, b7, b8⟩⟩⟩ : Session))))) [] := by
  refine fn_walk tb [0, 1, 2, 3, 4] (fn := Try.f24) hmix htb Try.func24 rfl (by kernel_rfl) (by kernel_rfl) (Nat.le_of_ble_eq_true (by kernel_rfl)) rfl ?_
  intro ar cm sc bc nt ng ln sz tn idx get set vw rep nf R r hπ hR hr
  have F := PF.of hπ
  have hfx := hf
  change a0.size ≤ BIG ∧ G.fin (⟨a1, a2, a3⟩ : Expr) ∧ G.fin (⟨a4⟩ : Tree) ∧ G.fin (⟨⟨a5⟩, ⟨a6, a7, a8⟩⟩ : Residual) at hfx
  obtain ⟨hf0, hf1, hf2, hf3⟩ := hfx
  have hinj : (⟨a0, ⟨a1, a2, a3⟩, ⟨a4⟩, ⟨⟨a5⟩, ⟨a6, a7, a8⟩⟩⟩ : Session) = (⟨b0, ⟨b1, b2, b3⟩, ⟨b4⟩, ⟨⟨b5⟩, ⟨b6, b7, b8⟩⟩⟩ : Session) → a0 = b0 ∧ (⟨a1, a2, a3⟩ : Expr) = ⟨b1, b2, b3⟩ ∧ (⟨a4⟩ : Tree) = ⟨b4⟩ ∧ (⟨⟨a5⟩, ⟨a6, a7, a8⟩⟩ : Residual) = ⟨⟨b5⟩, ⟨b6, b7, b8⟩⟩ := fun e => by cases e; simp
  have hmk : a0 = b0 ∧ (⟨a1, a2, a3⟩ : Expr) = ⟨b1, b2, b3⟩ ∧ (⟨a4⟩ : Tree) = ⟨b4⟩ ∧ (⟨⟨a5⟩, ⟨a6, a7, a8⟩⟩ : Residual) = ⟨⟨b5⟩, ⟨b6, b7, b8⟩⟩ → (⟨a0, ⟨a1, a2, a3⟩, ⟨a4⟩, ⟨⟨a5⟩, ⟨a6, a7, a8⟩⟩⟩ : Session) = (⟨b0, ⟨b1, b2, b3⟩, ⟨b4⟩, ⟨⟨b5⟩, ⟨b6, b7, b8⟩⟩⟩ : Session) := fun e => by obtain ⟨e0, e1, e2, e3⟩ := e; cases e0; cases e1; cases e2; cases e3; rfl
  generalize (⟨a0, ⟨a1, a2, a3⟩, ⟨a4⟩, ⟨⟨a5⟩, ⟨a6, a7, a8⟩⟩⟩ : Session) = A at hinj hmk hr hf
  generalize (⟨b0, ⟨b1, b2, b3⟩, ⟨b4⟩, ⟨⟨b5⟩, ⟨b6, b7, b8⟩⟩⟩ : Session) = B at hinj hmk hr
  cbv
  cases f0 : sc .eql a0 b0
  case false =>
    rw [F.seql] at f0
    simp only [decide_eq_false_iff_not] at f0
    have f0' : ¬ a0 = b0 := f0
    cbv
    exact ⟨by rw [hr, same_false.2 fun e => f0' (hinj e).1], trivial⟩
  case true =>
  rw [F.seql] at f0
  simp only [decide_eq_true_eq] at f0
  cbv
  have hc := c_iEqExpr (b0 := b1) (b1 := b2) (b2 := b3) hxa3 hxb3 hf1
  generalize f1 : same _ _ = v1 at hc
  refine ⟨_, (hR ▸ hc : R 60 _ _ _ _), ?_⟩
  cbv
  cases v1
  case false =>
    rw [same_false] at f1
    cbv
    exact ⟨by rw [hr, same_false.2 fun e => f1 (hinj e).2.1], trivial⟩
  case true =>
  rw [same_iff] at f1
  cbv
  have hc := c_iEqTree (b0 := b4) hxa4 hxb4 hf2
  generalize f2 : same _ _ = v2 at hc
  refine ⟨_, (hR ▸ hc : R 61 _ _ _ _), ?_⟩
  cbv
  cases v2
  case false =>
    rw [same_false] at f2
    cbv
    exact ⟨by rw [hr, same_false.2 fun e => f2 (hinj e).2.2.1], trivial⟩
  case true =>
  rw [same_iff] at f2
  cbv
  have hc := c_iEqResidual (b0 := b5) (b1 := b6) (b2 := b7) (b3 := b8) hxa5 hxa8 hxb5 hxb8 hf3
  generalize f3 : same _ _ = v3 at hc
  refine ⟨_, (hR ▸ hc : R 62 _ _ _ _), ?_⟩
  cbv
  cases v3
  case false =>
    rw [same_false] at f3
    cbv
    exact ⟨by rw [hr, same_false.2 fun e => f3 (hinj e).2.2.2], trivial⟩
  case true =>
  rw [same_iff] at f3
  cbv
  exact ⟨by rw [hr, same_iff.2 (hmk ⟨f0, f1, f2, f3⟩)], trivial⟩

theorem c_iEqEntry {a0 : Int} {a1 : ByteArray} {a2 : List Expr} {a3 : List ByteArray} {a4 : Bool} {a5 : List Rule} {a6 : Int} {a7 : ByteArray} {a8 : List Expr} {b0 : Int} {b1 : ByteArray} {b2 : List Expr} {b3 : List ByteArray} {b4 : Bool} {b5 : List Rule} {b6 : Int} {b7 : ByteArray} {b8 : List Expr} {xa2 : List (List T)} (hxa2 : rows false a2 = xa2) {xa3 : List (List T)} (hxa3 : rows false a3 = xa3) {xa5 : List (List T)} (hxa5 : rows false a5 = xa5) {xa8 : List (List T)} (hxa8 : rows false a8 = xa8) {xb2 : List (List T)} (hxb2 : rows false b2 = xb2) {xb3 : List (List T)} (hxb3 : rows false b3 = xb3) {xb5 : List (List T)} (hxb5 : rows false b5 = xb5) {xb8 : List (List T)} (hxb8 : rows false b8 = xb8) (hf : G.fin (⟨⟨a0, a1, a2⟩, a3, a4, ⟨⟨a5⟩, ⟨a6, a7, a8⟩⟩⟩ : Entry)) :
    Returns E 37 [.agg [.t (.int .i64 a0), .t (.str a1), .t (.sl false 3 xa2), .t (.sl false 1 xa3), .t (.bool a4), .t (.sl false 7 xa5), .t (.int .i64 a6), .t (.str a7), .t (.sl false 3 xa8)], .agg [.t (.int .i64 b0), .t (.str b1), .t (.sl false 3 xb2), .t (.sl false 1 xb3), .t (.bool b4), .t (.sl false 7 xb5), .t (.int .i64 b6), .t (.str b7), .t (.sl false 3 xb8)]] [] (.c (.t (.bool (same (⟨⟨a0, a1, a2⟩, a3, a4, ⟨⟨a5⟩, ⟨a6, a7, a8⟩⟩⟩ : Entry) (⟨⟨b0, b1, b2⟩, b3, b4, ⟨⟨b5⟩, ⟨b6, b7, b8⟩⟩⟩ : Entry))))) [] := by
  refine fn_walk tb [0, 1, 2, 3, 4] (fn := Try.f37) hmix htb Try.func37 rfl (by kernel_rfl) (by kernel_rfl) (Nat.le_of_ble_eq_true (by kernel_rfl)) rfl ?_
  intro ar cm sc bc nt ng ln sz tn idx get set vw rep nf R r hπ hR hr
  have F := PF.of hπ
  have hfx := hf
  change G.fin (⟨a0, a1, a2⟩ : Expr) ∧ finL a3 ∧ G.fin (⟨⟨a5⟩, ⟨a6, a7, a8⟩⟩ : Residual) at hfx
  obtain ⟨hf0, hf1, hf3⟩ := hfx
  have hinj : (⟨⟨a0, a1, a2⟩, a3, a4, ⟨⟨a5⟩, ⟨a6, a7, a8⟩⟩⟩ : Entry) = (⟨⟨b0, b1, b2⟩, b3, b4, ⟨⟨b5⟩, ⟨b6, b7, b8⟩⟩⟩ : Entry) → (⟨a0, a1, a2⟩ : Expr) = ⟨b0, b1, b2⟩ ∧ a3 = b3 ∧ a4 = b4 ∧ (⟨⟨a5⟩, ⟨a6, a7, a8⟩⟩ : Residual) = ⟨⟨b5⟩, ⟨b6, b7, b8⟩⟩ := fun e => by cases e; simp
  have hmk : (⟨a0, a1, a2⟩ : Expr) = ⟨b0, b1, b2⟩ ∧ a3 = b3 ∧ a4 = b4 ∧ (⟨⟨a5⟩, ⟨a6, a7, a8⟩⟩ : Residual) = ⟨⟨b5⟩, ⟨b6, b7, b8⟩⟩ → (⟨⟨a0, a1, a2⟩, a3, a4, ⟨⟨a5⟩, ⟨a6, a7, a8⟩⟩⟩ : Entry) = (⟨⟨b0, b1, b2⟩, b3, b4, ⟨⟨b5⟩, ⟨b6, b7, b8⟩⟩⟩ : Entry) := fun e => by obtain ⟨e0, e1, e2, e3⟩ := e; cases e0; cases e1; cases e2; cases e3; rfl
  generalize (⟨⟨a0, a1, a2⟩, a3, a4, ⟨⟨a5⟩, ⟨a6, a7, a8⟩⟩⟩ : Entry) = A at hinj hmk hr hf
  generalize (⟨⟨b0, b1, b2⟩, b3, b4, ⟨⟨b5⟩, ⟨b6, b7, b8⟩⟩⟩ : Entry) = B at hinj hmk hr
  cbv
  have hc := c_iEqExpr (b0 := b0) (b1 := b1) (b2 := b2) hxa2 hxb2 hf0
  generalize f0 : same _ _ = v0 at hc
  refine ⟨_, (hR ▸ hc : R 60 _ _ _ _), ?_⟩
  cbv
  cases v0
  case false =>
    rw [same_false] at f0
    cbv
    exact ⟨by rw [hr, same_false.2 fun e => f0 (hinj e).1], trivial⟩
  case true =>
  rw [same_iff] at f0
  cbv
  have hc := c_sEqStr hxa3 hxb3 hf1
  generalize f1 : same _ _ = v1 at hc
  refine ⟨_, (hR ▸ hc : R 79 _ _ _ _), ?_⟩
  cbv
  cases v1
  case false =>
    rw [same_false] at f1
    cbv
    exact ⟨by rw [hr, same_false.2 fun e => f1 (hinj e).2.1], trivial⟩
  case true =>
  rw [same_iff] at f1
  cbv
  cases f2 : bc .eql a4 b4
  case false =>
    rw [F.beql] at f2
    simp only [beq_eq_false_iff_ne] at f2
    have f2' : ¬ a4 = b4 := f2
    cbv
    exact ⟨by rw [hr, same_false.2 fun e => f2' (hinj e).2.2.1], trivial⟩
  case true =>
  rw [F.beql] at f2
  simp only [beq_iff_eq] at f2
  cbv
  have hc := c_iEqResidual (b0 := b5) (b1 := b6) (b2 := b7) (b3 := b8) hxa5 hxa8 hxb5 hxb8 hf3
  generalize f3 : same _ _ = v3 at hc
  refine ⟨_, (hR ▸ hc : R 62 _ _ _ _), ?_⟩
  cbv
  cases v3
  case false =>
    rw [same_false] at f3
    cbv
    exact ⟨by rw [hr, same_false.2 fun e => f3 (hinj e).2.2.2], trivial⟩
  case true =>
  rw [same_iff] at f3
  cbv
  exact ⟨by rw [hr, same_iff.2 (hmk ⟨f0, f1, f2, f3⟩)], trivial⟩

theorem c_iEqEntries {l m : List Entry} {xs ys : List (List T)} (hx : rows false l = xs) (hy : rows false m = ys) (hf : finL l) :
    Returns E 36 [.c (.t (.sl false 9 xs)), .c (.t (.sl false 9 ys)), .c (.clo 37 [])] [] (.c (.t (.bool (same l m)))) [] := by
  refine fn_walk tb [0, 1, 2, 6, 7, 8, 9, 14, 15, 16, 17, 18, 30] (fn := Try.f36) hmix htb Try.func36 rfl (by kernel_rfl) (by kernel_rfl) (Nat.le_of_ble_eq_true (by kernel_rfl)) rfl ?_
  intro ar cm sc bc nt ng ln sz tn idx get set vw rep nf R r hπ hR hr
  have F := PF.of hπ
  have hlen : ln xs = I l.length := by rw [F.ln, ← hx, rows_length]
  have hlen' : ln ys = I m.length := by rw [F.ln, ← hy, rows_length]
  have hl : l.length ≤ 9223372036854775807 := hf.1
  have hget : ∀ (k : Nat) (i : Int), i = I k → (hk : k < l.length) → idx xs i = some (G.cells false l[k]) := fun k i hi hk => by rw [F.idx, ← hx, rows_get, hi, I]; simp [hk]
  have hget' : ∀ (k : Nat) (i : Int), i = I k → (hk : k < m.length) → idx ys i = some (G.cells false m[k]) := fun k i hi hk => by rw [F.idx, ← hy, rows_get, hi, I]; simp [hk]
  cbv
  split
  · rename_i h
    simp only [F.neq, hlen, hlen', decide_eq_true_eq] at h
    cbv
    exact ⟨by rw [hr, same_false.2 fun e => h (by rw [e])], trivial⟩
  · rename_i h
    simp only [F.neq, hlen, hlen', decide_eq_false_iff_not, Decidable.not_not] at h
    have hlm : l.length = m.length := by simp only [I] at h; omega
    cbv
    refine aloop_inv [0, 1, 2, 6, 15, 16, 17] [] (fun (a : Nat × Int) => ⟨[(0, .c (.t (.sl false 9 xs))), (1, .c (.t (.sl false 9 ys))), (2, .c (.clo 37 [])), (6, .c (.t (.bool false))), (15, .c (.t (.sl false 9 xs))), (16, .c (.t (.int .i64 (ln xs)))), (17, .c (.t (.int .i64 a.2)))], [], [], [], [], []⟩)
      (fun a => a.1 ≤ l.length ∧ a.2 = I a.1 ∧ l.take a.1 = m.take a.1) (fun a => l.length - a.1) (0, 0) ⟨by simp, rfl, rfl⟩ rfl ?_
    rintro ⟨k, i⟩ ⟨hk, hi, ht⟩
    simp only at hk hi ht
    cbv
    split
    · rename_i hlt
      simp only [F.lss, hlen, decide_eq_true_eq, hi] at hlt
      have hkl : k < l.length := by simp only [I] at hlt; omega
      have hkm : k < m.length := by omega
      have hg := hget k i hi hkl
      have hg' := hget' k i hi hkm
      have hst : l[k] = m[k] → l.take (k + 1) = m.take (k + 1) := take_eq_succ ht hkl hkm
      have heq : l = m → l[k] = m[k] := fun e => by subst e; rfl
      have hfx := hf.2 l[k] (List.getElem_mem hkl)
      generalize l[k] = x at hg hst heq hfx
      generalize m[k] = y at hg' hst heq
      obtain ⟨⟨x0, x1, x2⟩, x3, x4, ⟨⟨x5⟩, ⟨x6, x7, x8⟩⟩⟩ := x
      obtain ⟨⟨w0, w1, w2⟩, w3, w4, ⟨⟨w5⟩, ⟨w6, w7, w8⟩⟩⟩ := y
      simp only [Entry.cells] at hg hg'
      generalize hxx2 : rows false x2 = yx2 at hg
      generalize hxx3 : rows false x3 = yx3 at hg
      generalize hxx5 : rows false x5 = yx5 at hg
      generalize hxx8 : rows false x8 = yx8 at hg
      generalize hxw2 : rows false w2 = yw2 at hg'
      generalize hxw3 : rows false w3 = yw3 at hg'
      generalize hxw5 : rows false w5 = yw5 at hg'
      generalize hxw8 : rows false w8 = yw8 at hg'
      cbv
      rw [hg]
      cbv
      rw [hg']
      cbv
      have hc := c_iEqEntry (b0 := w0) (b1 := w1) (b2 := w2) (b3 := w3) (b4 := w4) (b5 := w5) (b6 := w6) (b7 := w7) (b8 := w8) hxx2 hxx3 hxx5 hxx8 hxw2 hxw3 hxw5 hxw8 hfx
      generalize hv : same _ _ = v at hc
      refine ⟨_, (hR ▸ hc : R 37 _ _ _ _), ?_⟩
      cbv
      rw [F.nt]
      cases v
      · cbv
        exact ⟨by rw [hr, same_false.2 fun e => same_false.1 hv (heq e)], trivial⟩
      · cbv
        refine ⟨(k + 1, ar .add .i64 i 1), ⟨by simp only; omega, ?_, hst (same_iff.1 hv)⟩, by simp only; omega, rfl⟩
        simp only [F.add, hi, IntKind.wrap_i64, I]; omega
    · rename_i hlt
      simp only [F.lss, hlen, decide_eq_false_iff_not, hi] at hlt
      have hkl : k = l.length := by simp only [I] at hlt; omega
      subst hkl
      rw [List.take_length, hlm, List.take_length] at ht
      cbv
      exact ⟨by rw [hr, same_iff.2 ht], trivial⟩

theorem c_iEqBase {a0 : List Rule} {a1 : List Entry} {b0 : List Rule} {b1 : List Entry} {xa0 : List (List T)} (hxa0 : rows false a0 = xa0) {xa1 : List (List T)} (hxa1 : rows false a1 = xa1) {xb0 : List (List T)} (hxb0 : rows false b0 = xb0) {xb1 : List (List T)} (hxb1 : rows false b1 = xb1) (hf : G.fin (⟨⟨a0⟩, a1⟩ : Base)) :
    Returns E 10 [.agg [.t (.sl false 7 xa0), .t (.sl false 9 xa1)], .agg [.t (.sl false 7 xb0), .t (.sl false 9 xb1)]] [] (.c (.t (.bool (same (⟨⟨a0⟩, a1⟩ : Base) (⟨⟨b0⟩, b1⟩ : Base))))) [] := by
  refine fn_walk tb [0, 1, 2, 3, 4] (fn := Try.f10) hmix htb Try.func10 rfl (by kernel_rfl) (by kernel_rfl) (Nat.le_of_ble_eq_true (by kernel_rfl)) rfl ?_
  intro ar cm sc bc nt ng ln sz tn idx get set vw rep nf R r hπ hR hr
  have F := PF.of hπ
  have hfx := hf
  change G.fin (⟨a0⟩ : Program) ∧ finL a1 at hfx
  obtain ⟨hf0, hf1⟩ := hfx
  have hinj : (⟨⟨a0⟩, a1⟩ : Base) = (⟨⟨b0⟩, b1⟩ : Base) → (⟨a0⟩ : Program) = ⟨b0⟩ ∧ a1 = b1 := fun e => by cases e; simp
  have hmk : (⟨a0⟩ : Program) = ⟨b0⟩ ∧ a1 = b1 → (⟨⟨a0⟩, a1⟩ : Base) = (⟨⟨b0⟩, b1⟩ : Base) := fun e => by obtain ⟨e0, e1⟩ := e; cases e0; cases e1; rfl
  generalize (⟨⟨a0⟩, a1⟩ : Base) = A at hinj hmk hr hf
  generalize (⟨⟨b0⟩, b1⟩ : Base) = B at hinj hmk hr
  cbv
  have hc := c_iEqProgram (b0 := b0) hxa0 hxb0 hf0
  generalize f0 : same _ _ = v0 at hc
  refine ⟨_, (hR ▸ hc : R 35 _ _ _ _), ?_⟩
  cbv
  cases v0
  case false =>
    rw [same_false] at f0
    cbv
    exact ⟨by rw [hr, same_false.2 fun e => f0 (hinj e).1], trivial⟩
  case true =>
  rw [same_iff] at f0
  cbv
  have hc := c_iEqEntries hxa1 hxb1 hf1
  generalize f1 : same _ _ = v1 at hc
  refine ⟨_, (hR ▸ hc : R 36 _ _ _ _), ?_⟩
  cbv
  cases v1
  case false =>
    rw [same_false] at f1
    cbv
    exact ⟨by rw [hr, same_false.2 fun e => f1 (hinj e).2], trivial⟩
  case true =>
  rw [same_iff] at f1
  cbv
  exact ⟨by rw [hr, same_iff.2 (hmk ⟨f0, f1⟩)], trivial⟩
end Vx.D.Ytbnagcgfmlmgnaa
