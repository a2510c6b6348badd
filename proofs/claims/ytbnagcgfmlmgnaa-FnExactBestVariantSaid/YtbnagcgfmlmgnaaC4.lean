import Derived.Test.YtbnagcgfmlmgnaaK
/- What the functions that measure, copy, compare and mark the data of a law return. No condition. -/
open Go Vx
namespace Vx.D.Ytbnagcgfmlmgnaa
open Go.Proofs
set_option maxRecDepth 100000
set_option maxHeartbeats 2000000
set_option linter.unusedVariables false
set_option linter.unusedSimpArgs false

theorem c_szStringS {l : List ByteArray} {xs : List (List T)} (hx : rows false l = xs) {left : Int} (h0 : 0 ≤ left) (h1 : left ≤ 2 ^ 40) (hf : finL l) :
    Returns E 110 [.c (.t (.sl false 1 xs)), .c (.t (.int .i64 left))] [] (.c (.t (.int .i64 (szv (totL l) left)))) [] := by
  refine fn_walk tb ([], []) ([0, 1, 4, 5, 11, 15, 26], []) (fn := Try.f110) hmix htb Try.func110 rfl (by kernel_rfl) (by kernel_rfl) (Nat.le_of_ble_eq_true (by kernel_rfl)) rfl ?_
  intro ar cm sc bc nt ng ln sz tn idx get set vw rep nf dv ct wr bt bs us ur ap fl on mi mh ms mo mx mn R r hπ hR hr
  have F := PF.of hπ
  have hlen : ln xs = I l.length := by rw [F.ln, ← hx, rows_length]
  have hl : l.length ≤ 9223372036854775807 := hf.1
  have hget : ∀ (k : Nat) (i : Int), i = I k → (hk : k < l.length) → idx xs i = some (G.cells false l[k]) := fun k i hi hk => by rw [F.idx, ← hx, rows_get, hi, I]; simp [hk]
  have htot : totL l = l.length + (l.map G.tot).sum := rfl
  cbv
  split
  · rename_i h
    cbv
    simp only [F.lss, F.sub, hlen, IntKind.wrap_i64, decide_eq_true_eq] at h
    refine ⟨?_, trivial⟩
    rw [hr, szv_is_neg (by first | omega | (simp only [I] at *; omega))]
  · rename_i h
    simp only [F.lss, F.sub, hlen, IntKind.wrap_i64, decide_eq_false_iff_not] at h
    cbv
    refine aloop_inv [0, 1, 4, 5] [] (fun (a : Nat × Int × Int) => ⟨[(0, .c (.t (.sl false 1 xs))), (1, .c (.t (.int .i64 a.2.2))), (4, .c (.t (.int .i64 0))), (5, .c (.t (.int .i64 a.2.1)))], [], [], [], [], []⟩)
      (fun a => a.1 ≤ l.length ∧ a.2.1 = I a.1 ∧ a.2.2 = left - I l.length - I ((l.take a.1).map G.tot).sum ∧ 0 ≤ a.2.2) (fun a => l.length - a.1) (0, 0, ar .sub .i64 left (ln xs))
      ⟨by simp, rfl, by simp only [F.sub, hlen, IntKind.wrap_i64, I] at *; simp; omega, by simp only [F.sub, hlen, IntKind.wrap_i64, I] at *; omega⟩ rfl ?_
    rintro ⟨k, i, u⟩ ⟨hk, hi, hu, hu0⟩
    simp only at hk hi hu hu0
    have hsum : ((l.take k).map G.tot).sum ≤ (l.map G.tot).sum := sum_take_le _ _ _
    cbv
    split
    · rename_i hlt
      simp only [F.lss, hlen, decide_eq_true_eq, hi] at hlt
      have hkl : k < l.length := by simp only [I] at hlt; omega
      have hg := hget k i hi hkl
      have htk : ((l.take (k + 1)).map G.tot).sum = ((l.take k).map G.tot).sum + G.tot l[k] := sum_take_succ _ _ _ hkl
      have hfx := hf.2 l[k] (List.getElem_mem hkl)
      have hsum1 : ((l.take (k + 1)).map G.tot).sum ≤ (l.map G.tot).sum := sum_take_le _ _ _
      generalize l[k] = x at hg htk hfx
      change idx xs i = some [.str x] at hg
      change x.size ≤ BIG at hfx
      have htx : G.tot x = x.size := rfl
      cbv
      rw [hg]
      cbv
      split
      · rename_i h
        simp only [F.lss, F.sub, F.sz, IntKind.wrap_i64, decide_eq_true_eq] at h
        cbv
        refine ⟨?_, trivial⟩
        rw [hr, szv_is_neg (by first | omega | (simp only [I] at *; omega))]
      · rename_i h
        simp only [F.lss, F.sub, F.sz, IntKind.wrap_i64, decide_eq_false_iff_not] at h
        cbv
        refine ⟨(k + 1, ar .add .i64 i 1, ar .sub .i64 u (sz x)), ⟨?_, ?_, ?_, ?_⟩, ?_, rfl⟩ <;> simp only [F.add, F.sub, F.sz, IntKind.wrap_i64, I, htk] at * <;> omega
    · rename_i hlt
      simp only [F.lss, hlen, decide_eq_false_iff_not, hi] at hlt
      have hkl : k = l.length := by simp only [I] at hlt; omega
      subst hkl
      rw [List.take_length] at hu
      cbv
      refine ⟨?_, trivial⟩
      have e1 : u = left - I (totL l) := by simp only [I] at *; omega
      rw [hr, szv_is (by first | omega | (simp only [I] at *; omega)), e1]
theorem q_szExprS {l : List Expr} {xs : List (List T)} (hx : rows false l = xs) {left : Int} (h0 : 0 ≤ left) (h1 : left ≤ 2 ^ 40) (hf : finL l)
    (ih : ∀ x ∈ l, ∀ {y : List (List T)}, rows false x.args = y → ∀ {u : Int}, 0 ≤ u → u ≤ 2 ^ 40 → G.fin x → Returns E 51 [.agg [.t (.int .i64 x.kind), .t (.str x.name), .t (.sl false 3 y)], .c (.t (.int .i64 u))] [] (.c (.t (.int .i64 (szv (G.tot x) u)))) []) :
    Returns E 89 [.c (.t (.sl false 3 xs)), .c (.t (.int .i64 left))] [] (.c (.t (.int .i64 (szv (totL l) left)))) [] := by
  refine fn_walk tb ([], []) ([0, 1, 4, 5, 11, 15, 25], []) (fn := Try.f89) hmix htb Try.func89 rfl (by kernel_rfl) (by kernel_rfl) (Nat.le_of_ble_eq_true (by kernel_rfl)) rfl ?_
  intro ar cm sc bc nt ng ln sz tn idx get set vw rep nf dv ct wr bt bs us ur ap fl on mi mh ms mo mx mn R r hπ hR hr
  have F := PF.of hπ
  have hlen : ln xs = I l.length := by rw [F.ln, ← hx, rows_length]
  have hl : l.length ≤ 9223372036854775807 := hf.1
  have hget : ∀ (k : Nat) (i : Int), i = I k → (hk : k < l.length) → idx xs i = some (G.cells false l[k]) := fun k i hi hk => by rw [F.idx, ← hx, rows_get, hi, I]; simp [hk]
  have htot : totL l = l.length + (l.map G.tot).sum := rfl
  cbv
  split
  · rename_i h
    cbv
    simp only [F.lss, F.sub, hlen, IntKind.wrap_i64, decide_eq_true_eq] at h
    refine ⟨?_, trivial⟩
    rw [hr, szv_is_neg (by first | omega | (simp only [I] at *; omega))]
  · rename_i h
    simp only [F.lss, F.sub, hlen, IntKind.wrap_i64, decide_eq_false_iff_not] at h
    cbv
    refine aloop_inv [0, 1, 4, 5] [] (fun (a : Nat × Int × Int) => ⟨[(0, .c (.t (.sl false 3 xs))), (1, .c (.t (.int .i64 a.2.2))), (4, .c (.t (.int .i64 0))), (5, .c (.t (.int .i64 a.2.1)))], [], [], [], [], []⟩)
      (fun a => a.1 ≤ l.length ∧ a.2.1 = I a.1 ∧ a.2.2 = left - I l.length - I ((l.take a.1).map G.tot).sum ∧ 0 ≤ a.2.2) (fun a => l.length - a.1) (0, 0, ar .sub .i64 left (ln xs))
      ⟨by simp, rfl, by simp only [F.sub, hlen, IntKind.wrap_i64, I] at *; simp; omega, by simp only [F.sub, hlen, IntKind.wrap_i64, I] at *; omega⟩ rfl ?_
    rintro ⟨k, i, u⟩ ⟨hk, hi, hu, hu0⟩
    simp only at hk hi hu hu0
    have hsum : ((l.take k).map G.tot).sum ≤ (l.map G.tot).sum := sum_take_le _ _ _
    cbv
    split
    · rename_i hlt
      simp only [F.lss, hlen, decide_eq_true_eq, hi] at hlt
      have hkl : k < l.length := by simp only [I] at hlt; omega
      have hg := hget k i hi hkl
      have htk : ((l.take (k + 1)).map G.tot).sum = ((l.take k).map G.tot).sum + G.tot l[k] := sum_take_succ _ _ _ hkl
      have hfx := hf.2 l[k] (List.getElem_mem hkl)
      have hsum1 : ((l.take (k + 1)).map G.tot).sum ≤ (l.map G.tot).sum := sum_take_le _ _ _
      have ih1 := @ih l[k] (List.getElem_mem hkl)
      generalize l[k] = x at hg htk hfx ih1
      obtain ⟨x0, x1, x2⟩ := x
      simp only [Expr.cells] at hg
      generalize hxx2 : rows false x2 = yx2 at hg
      cbv
      rw [hg]
      cbv
      have hc := ih1 hxx2 hu0 (by first | omega | (simp only [I] at *; omega)) hfx
      generalize hv : szv _ _ = v at hc
      refine ⟨_, ⟨(hR ▸ hc : R 51 _ _ _ _), rfl⟩, ?_⟩
      cbv
      split
      · rename_i h
        simp only [F.lss, decide_eq_true_eq] at h
        have hn := szv_neg hv h
        cbv
        refine ⟨?_, trivial⟩
        rw [hr, szv_is_neg (by first | omega | (simp only [I] at *; omega))]
      · rename_i h
        simp only [F.lss, decide_eq_false_iff_not] at h
        have hn := szv_pos hv h
        cbv
        refine ⟨(k + 1, ar .add .i64 i 1, v), ⟨?_, ?_, ?_, ?_⟩, ?_, rfl⟩ <;> simp only [F.add, IntKind.wrap_i64, I, htk] at * <;> omega
    · rename_i hlt
      simp only [F.lss, hlen, decide_eq_false_iff_not, hi] at hlt
      have hkl : k = l.length := by simp only [I] at hlt; omega
      subst hkl
      rw [List.take_length] at hu
      cbv
      refine ⟨?_, trivial⟩
      have e1 : u = left - I (totL l) := by simp only [I] at *; omega
      rw [hr, szv_is (by first | omega | (simp only [I] at *; omega)), e1]

theorem d_szExpr {a0 : Int} {a1 : ByteArray} {a2 : List Expr} {xa2 : List (List T)} (hxa2 : rows false a2 = xa2) {left : Int} (h0 : 0 ≤ left) (h1 : left ≤ 2 ^ 40) (hf : G.fin (⟨a0, a1, a2⟩ : Expr))
    (ih : ∀ {u : Int}, 0 ≤ u → u ≤ 2 ^ 40 → Returns E 89 [.c (.t (.sl false 3 xa2)), .c (.t (.int .i64 u))] [] (.c (.t (.int .i64 (szv (totL a2) u)))) []) :
    Returns E 51 [.agg [.t (.int .i64 a0), .t (.str a1), .t (.sl false 3 xa2)], .c (.t (.int .i64 left))] [] (.c (.t (.int .i64 (szv (G.tot (⟨a0, a1, a2⟩ : Expr)) left)))) [] := by
  refine fn_walk tb ([], []) ([0, 1, 2, 4, 11, 17], []) (fn := Try.f51) hmix htb Try.func51 rfl (by kernel_rfl) (by kernel_rfl) (Nat.le_of_ble_eq_true (by kernel_rfl)) rfl ?_
  intro ar cm sc bc nt ng ln sz tn idx get set vw rep nf dv ct wr bt bs us ur ap fl on mi mh ms mo mx mn R r hπ hR hr
  have F := PF.of hπ
  have htot := Expr.tot (⟨a0, a1, a2⟩ : Expr)
  have hfx := hf
  rw [Expr.fin] at hfx
  simp only at htot hfx
  obtain ⟨hf0, hf1⟩ := hfx
  cbv
  split
  · rename_i h
    simp only [F.lss, F.sub, F.sz, IntKind.wrap_i64, decide_eq_true_eq] at h
    cbv
    refine ⟨?_, trivial⟩
    rw [hr, szv_is_neg (by first | omega | (simp only [I] at *; omega))]
  · rename_i h
    simp only [F.lss, F.sub, F.sz, IntKind.wrap_i64, decide_eq_false_iff_not] at h
    have hu0 : ar .sub .i64 left (sz a1) = left - I a1.size := by simp only [F.sub, F.sz, IntKind.wrap_i64, I] at *; omega
    have hp0 : 0 ≤ ar .sub .i64 left (sz a1) := by simp only [F.sub, F.sz, IntKind.wrap_i64, I] at *; omega
    generalize ar .sub .i64 left (sz a1) = u0 at *
    cbv
    have hc := ih (u := u0) (by first | omega | (simp only [I] at *; omega)) (by first | omega | (simp only [I] at *; omega))
    generalize hv1 : szv _ _ = u1 at hc
    refine ⟨_, ⟨(hR ▸ hc : R 89 _ _ _ _), rfl⟩, ?_⟩
    cbv
    split
    · rename_i h
      simp only [F.lss, decide_eq_true_eq] at h
      have hn := szv_neg hv1 h
      cbv
      refine ⟨?_, trivial⟩
      rw [hr, szv_is_neg (by first | omega | (simp only [I] at *; omega))]
    · rename_i h
      simp only [F.lss, decide_eq_false_iff_not] at h
      have hn1 := szv_pos hv1 h
      cbv
      have e1 : u1 = left - I (G.tot (⟨a0, a1, a2⟩ : Expr)) := by simp only [I] at *; omega
      refine ⟨?_, trivial⟩
      rw [hr, szv_is (by first | omega | (simp only [I] at *; omega)), e1]

theorem e_szExpr : ∀ x : Expr, ∀ {y : List (List T)}, rows false x.args = y → ∀ {u : Int}, 0 ≤ u → u ≤ 2 ^ 40 → G.fin x → Returns E 51 [.agg [.t (.int .i64 x.kind), .t (.str x.name), .t (.sl false 3 y)], .c (.t (.int .i64 u))] [] (.c (.t (.int .i64 (szv (G.tot x) u)))) [] := by
  refine Expr.ind fun k n l0 ih => ?_
  intro y hy u h0 h1 hf
  exact d_szExpr hy h0 h1 hf fun h0 h1 => q_szExprS hy h0 h1 ((Expr.fin _).1 hf).2 ih
theorem c_szExpr {a0 : Int} {a1 : ByteArray} {a2 : List Expr} {xa2 : List (List T)} (hxa2 : rows false a2 = xa2) {left : Int} (h0 : 0 ≤ left) (h1 : left ≤ 2 ^ 40) (hf : G.fin (⟨a0, a1, a2⟩ : Expr)) :
    Returns E 51 [.agg [.t (.int .i64 a0), .t (.str a1), .t (.sl false 3 xa2)], .c (.t (.int .i64 left))] [] (.c (.t (.int .i64 (szv (G.tot (⟨a0, a1, a2⟩ : Expr)) left)))) [] := e_szExpr (⟨a0, a1, a2⟩ : Expr) hxa2 h0 h1 hf
theorem c_szExprS {l : List Expr} {xs : List (List T)} (hx : rows false l = xs) {left : Int} (h0 : 0 ≤ left) (h1 : left ≤ 2 ^ 40) (hf : finL l) :
    Returns E 89 [.c (.t (.sl false 3 xs)), .c (.t (.int .i64 left))] [] (.c (.t (.int .i64 (szv (totL l) left)))) [] := q_szExprS hx h0 h1 hf fun x _ => e_szExpr x

theorem c_szRule {a0 : ByteArray} {a1 : ByteArray} {a2 : List ByteArray} {a3 : List ByteArray} {a4 : Int} {a5 : ByteArray} {a6 : List Expr} {xa2 : List (List T)} (hxa2 : rows false a2 = xa2) {xa3 : List (List T)} (hxa3 : rows false a3 = xa3) {xa6 : List (List T)} (hxa6 : rows false a6 = xa6) {left : Int} (h0 : 0 ≤ left) (h1 : left ≤ 2 ^ 40) (hf : G.fin (⟨a0, a1, a2, a3, ⟨a4, a5, a6⟩⟩ : Rule)) :
    Returns E 100 [.agg [.t (.str a0), .t (.str a1), .t (.sl false 1 xa2), .t (.sl false 1 xa3), .t (.int .i64 a4), .t (.str a5), .t (.sl false 3 xa6)], .c (.t (.int .i64 left))] [] (.c (.t (.int .i64 (szv (G.tot (⟨a0, a1, a2, a3, ⟨a4, a5, a6⟩⟩ : Rule)) left)))) [] := by
  refine fn_walk tb ([], []) ([0, 1, 2, 4, 11, 18, 24, 30, 36], []) (fn := Try.f100) hmix htb Try.func100 rfl (by kernel_rfl) (by kernel_rfl) (Nat.le_of_ble_eq_true (by kernel_rfl)) rfl ?_
  intro ar cm sc bc nt ng ln sz tn idx get set vw rep nf dv ct wr bt bs us ur ap fl on mi mh ms mo mx mn R r hπ hR hr
  have F := PF.of hπ
  have htot := Rule.tot (⟨a0, a1, a2, a3, ⟨a4, a5, a6⟩⟩ : Rule)
  have hfx := hf
  change a0.size ≤ BIG ∧ a1.size ≤ BIG ∧ finL a2 ∧ finL a3 ∧ G.fin (⟨a4, a5, a6⟩ : Expr) at hfx
  simp only at htot hfx
  obtain ⟨hf0, hf1, hf2, hf3, hf4⟩ := hfx
  cbv
  split
  · rename_i h
    simp only [F.lss, F.sub, F.sz, IntKind.wrap_i64, decide_eq_true_eq] at h
    cbv
    refine ⟨?_, trivial⟩
    rw [hr, szv_is_neg (by first | omega | (simp only [I] at *; omega))]
  · rename_i h
    simp only [F.lss, F.sub, F.sz, IntKind.wrap_i64, decide_eq_false_iff_not] at h
    have hu0 : ar .sub .i64 left (sz a0) = left - I a0.size := by simp only [F.sub, F.sz, IntKind.wrap_i64, I] at *; omega
    have hp0 : 0 ≤ ar .sub .i64 left (sz a0) := by simp only [F.sub, F.sz, IntKind.wrap_i64, I] at *; omega
    generalize ar .sub .i64 left (sz a0) = u0 at *
    cbv
    split
    · rename_i h
      simp only [F.lss, F.sub, F.sz, IntKind.wrap_i64, decide_eq_true_eq] at h
      cbv
      refine ⟨?_, trivial⟩
      rw [hr, szv_is_neg (by first | omega | (simp only [I] at *; omega))]
    · rename_i h
      simp only [F.lss, F.sub, F.sz, IntKind.wrap_i64, decide_eq_false_iff_not] at h
      have hu1 : ar .sub .i64 u0 (sz a1) = u0 - I a1.size := by simp only [F.sub, F.sz, IntKind.wrap_i64, I] at *; omega
      have hp1 : 0 ≤ ar .sub .i64 u0 (sz a1) := by simp only [F.sub, F.sz, IntKind.wrap_i64, I] at *; omega
      generalize ar .sub .i64 u0 (sz a1) = u1 at *
      cbv
      have hc := c_szStringS hxa2 (left := u1) (by first | omega | (simp only [I] at *; omega)) (by first | omega | (simp only [I] at *; omega)) hf2
      generalize hv2 : szv _ _ = u2 at hc
      refine ⟨_, ⟨(hR ▸ hc : R 110 _ _ _ _), rfl⟩, ?_⟩
      cbv
      split
      · rename_i h
        simp only [F.lss, decide_eq_true_eq] at h
        have hn := szv_neg hv2 h
        cbv
        refine ⟨?_, trivial⟩
        rw [hr, szv_is_neg (by first | omega | (simp only [I] at *; omega))]
      · rename_i h
        simp only [F.lss, decide_eq_false_iff_not] at h
        have hn2 := szv_pos hv2 h
        cbv
        have hc := c_szStringS hxa3 (left := u2) (by first | omega | (simp only [I] at *; omega)) (by first | omega | (simp only [I] at *; omega)) hf3
        generalize hv3 : szv _ _ = u3 at hc
        refine ⟨_, ⟨(hR ▸ hc : R 110 _ _ _ _), rfl⟩, ?_⟩
        cbv
        split
        · rename_i h
          simp only [F.lss, decide_eq_true_eq] at h
          have hn := szv_neg hv3 h
          cbv
          refine ⟨?_, trivial⟩
          rw [hr, szv_is_neg (by first | omega | (simp only [I] at *; omega))]
        · rename_i h
          simp only [F.lss, decide_eq_false_iff_not] at h
          have hn3 := szv_pos hv3 h
          cbv
          have hc := c_szExpr hxa6 (left := u3) (by first | omega | (simp only [I] at *; omega)) (by first | omega | (simp only [I] at *; omega)) hf4
          generalize hv4 : szv _ _ = u4 at hc
          refine ⟨_, ⟨(hR ▸ hc : R 51 _ _ _ _), rfl⟩, ?_⟩
          cbv
          split
          · rename_i h
            simp only [F.lss, decide_eq_true_eq] at h
            have hn := szv_neg hv4 h
            cbv
            refine ⟨?_, trivial⟩
            rw [hr, szv_is_neg (by first | omega | (simp only [I] at *; omega))]
          · rename_i h
            simp only [F.lss, decide_eq_false_iff_not] at h
            have hn4 := szv_pos hv4 h
            cbv
            have e1 : u4 = left - I (G.tot (⟨a0, a1, a2, a3, ⟨a4, a5, a6⟩⟩ : Rule)) := by simp only [I] at *; omega
            refine ⟨?_, trivial⟩
            rw [hr, szv_is (by first | omega | (simp only [I] at *; omega)), e1]

theorem c_szRuleS {l : List Rule} {xs : List (List T)} (hx : rows false l = xs) {left : Int} (h0 : 0 ≤ left) (h1 : left ≤ 2 ^ 40) (hf : finL l) :
    Returns E 65 [.c (.t (.sl false 7 xs)), .c (.t (.int .i64 left))] [] (.c (.t (.int .i64 (szv (totL l) left)))) [] := by
  refine fn_walk tb ([], []) ([0, 1, 4, 5, 11, 15, 25], []) (fn := Try.f65) hmix htb Try.func65 rfl (by kernel_rfl) (by kernel_rfl) (Nat.le_of_ble_eq_true (by kernel_rfl)) rfl ?_
  intro ar cm sc bc nt ng ln sz tn idx get set vw rep nf dv ct wr bt bs us ur ap fl on mi mh ms mo mx mn R r hπ hR hr
  have F := PF.of hπ
  have hlen : ln xs = I l.length := by rw [F.ln, ← hx, rows_length]
  have hl : l.length ≤ 9223372036854775807 := hf.1
  have hget : ∀ (k : Nat) (i : Int), i = I k → (hk : k < l.length) → idx xs i = some (G.cells false l[k]) := fun k i hi hk => by rw [F.idx, ← hx, rows_get, hi, I]; simp [hk]
  have htot : totL l = l.length + (l.map G.tot).sum := rfl
  cbv
  split
  · rename_i h
    cbv
    simp only [F.lss, F.sub, hlen, IntKind.wrap_i64, decide_eq_true_eq] at h
    refine ⟨?_, trivial⟩
    rw [hr, szv_is_neg (by first | omega | (simp only [I] at *; omega))]
  · rename_i h
    simp only [F.lss, F.sub, hlen, IntKind.wrap_i64, decide_eq_false_iff_not] at h
    cbv
    refine aloop_inv [0, 1, 4, 5] [] (fun (a : Nat × Int × Int) => ⟨[(0, .c (.t (.sl false 7 xs))), (1, .c (.t (.int .i64 a.2.2))), (4, .c (.t (.int .i64 0))), (5, .c (.t (.int .i64 a.2.1)))], [], [], [], [], []⟩)
      (fun a => a.1 ≤ l.length ∧ a.2.1 = I a.1 ∧ a.2.2 = left - I l.length - I ((l.take a.1).map G.tot).sum ∧ 0 ≤ a.2.2) (fun a => l.length - a.1) (0, 0, ar .sub .i64 left (ln xs))
      ⟨by simp, rfl, by simp only [F.sub, hlen, IntKind.wrap_i64, I] at *; simp; omega, by simp only [F.sub, hlen, IntKind.wrap_i64, I] at *; omega⟩ rfl ?_
    rintro ⟨k, i, u⟩ ⟨hk, hi, hu, hu0⟩
    simp only at hk hi hu hu0
    have hsum : ((l.take k).map G.tot).sum ≤ (l.map G.tot).sum := sum_take_le _ _ _
    cbv
    split
    · rename_i hlt
      simp only [F.lss, hlen, decide_eq_true_eq, hi] at hlt
      have hkl : k < l.length := by simp only [I] at hlt; omega
      have hg := hget k i hi hkl
      have htk : ((l.take (k + 1)).map G.tot).sum = ((l.take k).map G.tot).sum + G.tot l[k] := sum_take_succ _ _ _ hkl
      have hfx := hf.2 l[k] (List.getElem_mem hkl)
      have hsum1 : ((l.take (k + 1)).map G.tot).sum ≤ (l.map G.tot).sum := sum_take_le _ _ _
      generalize l[k] = x at hg htk hfx
      obtain ⟨x0, x1, x2, x3, ⟨x4, x5, x6⟩⟩ := x
      simp only [Rule.cells] at hg
      generalize hxx2 : rows false x2 = yx2 at hg
      generalize hxx3 : rows false x3 = yx3 at hg
      generalize hxx6 : rows false x6 = yx6 at hg
      cbv
      rw [hg]
      cbv
      have hc := c_szRule hxx2 hxx3 hxx6 hu0 (by first | omega | (simp only [I] at *; omega)) hfx
      generalize hv : szv _ _ = v at hc
      refine ⟨_, ⟨(hR ▸ hc : R 100 _ _ _ _), rfl⟩, ?_⟩
      cbv
      split
      · rename_i h
        simp only [F.lss, decide_eq_true_eq] at h
        have hn := szv_neg hv h
        cbv
        refine ⟨?_, trivial⟩
        rw [hr, szv_is_neg (by first | omega | (simp only [I] at *; omega))]
      · rename_i h
        simp only [F.lss, decide_eq_false_iff_not] at h
        have hn := szv_pos hv h
        cbv
        refine ⟨(k + 1, ar .add .i64 i 1, v), ⟨?_, ?_, ?_, ?_⟩, ?_, rfl⟩ <;> simp only [F.add, IntKind.wrap_i64, I, htk] at * <;> omega
    · rename_i hlt
      simp only [F.lss, hlen, decide_eq_false_iff_not, hi] at hlt
      have hkl : k = l.length := by simp only [I] at hlt; omega
      subst hkl
      rw [List.take_length] at hu
      cbv
      refine ⟨?_, trivial⟩
      have e1 : u = left - I (totL l) := by simp only [I] at *; omega
      rw [hr, szv_is (by first | omega | (simp only [I] at *; omega)), e1]

theorem c_szProgram {a0 : List Rule} {xa0 : List (List T)} (hxa0 : rows false a0 = xa0) {left : Int} (h0 : 0 ≤ left) (h1 : left ≤ 2 ^ 40) (hf : G.fin (⟨a0⟩ : Program)) :
    Returns E 26 [.agg [.t (.sl false 7 xa0)], .c (.t (.int .i64 left))] [] (.c (.t (.int .i64 (szv (G.tot (⟨a0⟩ : Program)) left)))) [] := by
  refine fn_walk tb ([], []) ([0, 1, 2, 4, 10], []) (fn := Try.f26) hmix htb Try.func26 rfl (by kernel_rfl) (by kernel_rfl) (Nat.le_of_ble_eq_true (by kernel_rfl)) rfl ?_
  intro ar cm sc bc nt ng ln sz tn idx get set vw rep nf dv ct wr bt bs us ur ap fl on mi mh ms mo mx mn R r hπ hR hr
  have F := PF.of hπ
  have htot := Program.tot (⟨a0⟩ : Program)
  have hfx := hf
  change finL a0 at hfx
  simp only at htot hfx
  have hf0 := hfx
  cbv
  have hc := c_szRuleS hxa0 (left := left) (by first | omega | (simp only [I] at *; omega)) (by first | omega | (simp only [I] at *; omega)) hf0
  generalize hv0 : szv _ _ = u0 at hc
  refine ⟨_, ⟨(hR ▸ hc : R 65 _ _ _ _), rfl⟩, ?_⟩
  cbv
  split
  · rename_i h
    simp only [F.lss, decide_eq_true_eq] at h
    have hn := szv_neg hv0 h
    cbv
    refine ⟨?_, trivial⟩
    rw [hr, szv_is_neg (by first | omega | (simp only [I] at *; omega))]
  · rename_i h
    simp only [F.lss, decide_eq_false_iff_not] at h
    have hn0 := szv_pos hv0 h
    cbv
    have e1 : u0 = left - I (G.tot (⟨a0⟩ : Program)) := by simp only [I] at *; omega
    refine ⟨?_, trivial⟩
    rw [hr, szv_is (by first | omega | (simp only [I] at *; omega)), e1]

theorem c_szResidual {a0 : List Rule} {a1 : Int} {a2 : ByteArray} {a3 : List Expr} {xa0 : List (List T)} (hxa0 : rows false a0 = xa0) {xa3 : List (List T)} (hxa3 : rows false a3 = xa3) {left : Int} (h0 : 0 ≤ left) (h1 : left ≤ 2 ^ 40) (hf : G.fin (⟨⟨a0⟩, ⟨a1, a2, a3⟩⟩ : Residual)) :
    Returns E 53 [.agg [.t (.sl false 7 xa0), .t (.int .i64 a1), .t (.str a2), .t (.sl false 3 xa3)], .c (.t (.int .i64 left))] [] (.c (.t (.int .i64 (szv (G.tot (⟨⟨a0⟩, ⟨a1, a2, a3⟩⟩ : Residual)) left)))) [] := by
  refine fn_walk tb ([], []) ([0, 1, 2, 4, 10, 16], []) (fn := Try.f53) hmix htb Try.func53 rfl (by kernel_rfl) (by kernel_rfl) (Nat.le_of_ble_eq_true (by kernel_rfl)) rfl ?_
  intro ar cm sc bc nt ng ln sz tn idx get set vw rep nf dv ct wr bt bs us ur ap fl on mi mh ms mo mx mn R r hπ hR hr
  have F := PF.of hπ
  have htot := Residual.tot (⟨⟨a0⟩, ⟨a1, a2, a3⟩⟩ : Residual)
  have hfx := hf
  change G.fin (⟨a0⟩ : Program) ∧ G.fin (⟨a1, a2, a3⟩ : Expr) at hfx
  simp only at htot hfx
  obtain ⟨hf0, hf1⟩ := hfx
  cbv
  have hc := c_szProgram hxa0 (left := left) (by first | omega | (simp only [I] at *; omega)) (by first | omega | (simp only [I] at *; omega)) hf0
  generalize hv0 : szv _ _ = u0 at hc
  refine ⟨_, ⟨(hR ▸ hc : R 26 _ _ _ _), rfl⟩, ?_⟩
  cbv
  split
  · rename_i h
    simp only [F.lss, decide_eq_true_eq] at h
    have hn := szv_neg hv0 h
    cbv
    refine ⟨?_, trivial⟩
    rw [hr, szv_is_neg (by first | omega | (simp only [I] at *; omega))]
  · rename_i h
    simp only [F.lss, decide_eq_false_iff_not] at h
    have hn0 := szv_pos hv0 h
    cbv
    have hc := c_szExpr hxa3 (left := u0) (by first | omega | (simp only [I] at *; omega)) (by first | omega | (simp only [I] at *; omega)) hf1
    generalize hv1 : szv _ _ = u1 at hc
    refine ⟨_, ⟨(hR ▸ hc : R 51 _ _ _ _), rfl⟩, ?_⟩
    cbv
    split
    · rename_i h
      simp only [F.lss, decide_eq_true_eq] at h
      have hn := szv_neg hv1 h
      cbv
      refine ⟨?_, trivial⟩
      rw [hr, szv_is_neg (by first | omega | (simp only [I] at *; omega))]
    · rename_i h
      simp only [F.lss, decide_eq_false_iff_not] at h
      have hn1 := szv_pos hv1 h
      cbv
      have e1 : u1 = left - I (G.tot (⟨⟨a0⟩, ⟨a1, a2, a3⟩⟩ : Residual)) := by simp only [I] at *; omega
      refine ⟨?_, trivial⟩
      rw [hr, szv_is (by first | omega | (simp only [I] at *; omega)), e1]

theorem c_szVariant {a0 : Int} {a1 : List Rule} {a2 : Int} {a3 : ByteArray} {a4 : List Expr} {a5 : Int} {a6 : Int} {xa1 : List (List T)} (hxa1 : rows false a1 = xa1) {xa4 : List (List T)} (hxa4 : rows false a4 = xa4) {left : Int} (h0 : 0 ≤ left) (h1 : left ≤ 2 ^ 40) (hf : G.fin (⟨a0, ⟨⟨a1⟩, ⟨a2, a3, a4⟩⟩, a5, a6⟩ : Variant)) :
    Returns E 39 [.agg [.t (.int .i64 a0), .t (.sl false 7 xa1), .t (.int .i64 a2), .t (.str a3), .t (.sl false 3 xa4), .t (.int .i64 a5), .t (.int .i64 a6)], .c (.t (.int .i64 left))] [] (.c (.t (.int .i64 (szv (G.tot (⟨a0, ⟨⟨a1⟩, ⟨a2, a3, a4⟩⟩, a5, a6⟩ : Variant)) left)))) [] := by
  refine fn_walk tb ([], []) ([0, 1, 2, 4, 10], []) (fn := Try.f39) hmix htb Try.func39 rfl (by kernel_rfl) (by kernel_rfl) (Nat.le_of_ble_eq_true (by kernel_rfl)) rfl ?_
  intro ar cm sc bc nt ng ln sz tn idx get set vw rep nf dv ct wr bt bs us ur ap fl on mi mh ms mo mx mn R r hπ hR hr
  have F := PF.of hπ
  have htot := Variant.tot (⟨a0, ⟨⟨a1⟩, ⟨a2, a3, a4⟩⟩, a5, a6⟩ : Variant)
  have hfx := hf
  change G.fin (⟨⟨a1⟩, ⟨a2, a3, a4⟩⟩ : Residual) at hfx
  simp only at htot hfx
  have hf0 := hfx
  cbv
  have hc := c_szResidual hxa1 hxa4 (left := left) (by first | omega | (simp only [I] at *; omega)) (by first | omega | (simp only [I] at *; omega)) hf0
  generalize hv0 : szv _ _ = u0 at hc
  refine ⟨_, ⟨(hR ▸ hc : R 53 _ _ _ _), rfl⟩, ?_⟩
  cbv
  split
  · rename_i h
    simp only [F.lss, decide_eq_true_eq] at h
    have hn := szv_neg hv0 h
    cbv
    refine ⟨?_, trivial⟩
    rw [hr, szv_is_neg (by first | omega | (simp only [I] at *; omega))]
  · rename_i h
    simp only [F.lss, decide_eq_false_iff_not] at h
    have hn0 := szv_pos hv0 h
    cbv
    have e1 : u0 = left - I (G.tot (⟨a0, ⟨⟨a1⟩, ⟨a2, a3, a4⟩⟩, a5, a6⟩ : Variant)) := by simp only [I] at *; omega
    refine ⟨?_, trivial⟩
    rw [hr, szv_is (by first | omega | (simp only [I] at *; omega)), e1]

theorem c_szVariantS {l : List Variant} {xs : List (List T)} (hx : rows false l = xs) {left : Int} (h0 : 0 ≤ left) (h1 : left ≤ 2 ^ 40) (hf : finL l) :
    Returns E 12 [.c (.t (.sl false 7 xs)), .c (.t (.int .i64 left))] [] (.c (.t (.int .i64 (szv (totL l) left)))) [] := by
  refine fn_walk tb ([], []) ([0, 1, 4, 5, 11, 15, 25], []) (fn := Try.f12) hmix htb Try.func12 rfl (by kernel_rfl) (by kernel_rfl) (Nat.le_of_ble_eq_true (by kernel_rfl)) rfl ?_
  intro ar cm sc bc nt ng ln sz tn idx get set vw rep nf dv ct wr bt bs us ur ap fl on mi mh ms mo mx mn R r hπ hR hr
  have F := PF.of hπ
  have hlen : ln xs = I l.length := by rw [F.ln, ← hx, rows_length]
  have hl : l.length ≤ 9223372036854775807 := hf.1
  have hget : ∀ (k : Nat) (i : Int), i = I k → (hk : k < l.length) → idx xs i = some (G.cells false l[k]) := fun k i hi hk => by rw [F.idx, ← hx, rows_get, hi, I]; simp [hk]
  have htot : totL l = l.length + (l.map G.tot).sum := rfl
  cbv
  split
  · rename_i h
    cbv
    simp only [F.lss, F.sub, hlen, IntKind.wrap_i64, decide_eq_true_eq] at h
    refine ⟨?_, trivial⟩
    rw [hr, szv_is_neg (by first | omega | (simp only [I] at *; omega))]
  · rename_i h
    simp only [F.lss, F.sub, hlen, IntKind.wrap_i64, decide_eq_false_iff_not] at h
    cbv
    refine aloop_inv [0, 1, 4, 5] [] (fun (a : Nat × Int × Int) => ⟨[(0, .c (.t (.sl false 7 xs))), (1, .c (.t (.int .i64 a.2.2))), (4, .c (.t (.int .i64 0))), (5, .c (.t (.int .i64 a.2.1)))], [], [], [], [], []⟩)
      (fun a => a.1 ≤ l.length ∧ a.2.1 = I a.1 ∧ a.2.2 = left - I l.length - I ((l.take a.1).map G.tot).sum ∧ 0 ≤ a.2.2) (fun a => l.length - a.1) (0, 0, ar .sub .i64 left (ln xs))
      ⟨by simp, rfl, by simp only [F.sub, hlen, IntKind.wrap_i64, I] at *; simp; omega, by simp only [F.sub, hlen, IntKind.wrap_i64, I] at *; omega⟩ rfl ?_
    rintro ⟨k, i, u⟩ ⟨hk, hi, hu, hu0⟩
    simp only at hk hi hu hu0
    have hsum : ((l.take k).map G.tot).sum ≤ (l.map G.tot).sum := sum_take_le _ _ _
    cbv
    split
    · rename_i hlt
      simp only [F.lss, hlen, decide_eq_true_eq, hi] at hlt
      have hkl : k < l.length := by simp only [I] at hlt; omega
      have hg := hget k i hi hkl
      have htk : ((l.take (k + 1)).map G.tot).sum = ((l.take k).map G.tot).sum + G.tot l[k] := sum_take_succ _ _ _ hkl
      have hfx := hf.2 l[k] (List.getElem_mem hkl)
      have hsum1 : ((l.take (k + 1)).map G.tot).sum ≤ (l.map G.tot).sum := sum_take_le _ _ _
      generalize l[k] = x at hg htk hfx
      obtain ⟨x0, ⟨⟨x1⟩, ⟨x2, x3, x4⟩⟩, x5, x6⟩ := x
      simp only [Variant.cells] at hg
      generalize hxx1 : rows false x1 = yx1 at hg
      generalize hxx4 : rows false x4 = yx4 at hg
      cbv
      rw [hg]
      cbv
      have hc := c_szVariant hxx1 hxx4 hu0 (by first | omega | (simp only [I] at *; omega)) hfx
      generalize hv : szv _ _ = v at hc
      refine ⟨_, ⟨(hR ▸ hc : R 39 _ _ _ _), rfl⟩, ?_⟩
      cbv
      split
      · rename_i h
        simp only [F.lss, decide_eq_true_eq] at h
        have hn := szv_neg hv h
        cbv
        refine ⟨?_, trivial⟩
        rw [hr, szv_is_neg (by first | omega | (simp only [I] at *; omega))]
      · rename_i h
        simp only [F.lss, decide_eq_false_iff_not] at h
        have hn := szv_pos hv h
        cbv
        refine ⟨(k + 1, ar .add .i64 i 1, v), ⟨?_, ?_, ?_, ?_⟩, ?_, rfl⟩ <;> simp only [F.add, IntKind.wrap_i64, I, htk] at * <;> omega
    · rename_i hlt
      simp only [F.lss, hlen, decide_eq_false_iff_not, hi] at hlt
      have hkl : k = l.length := by simp only [I] at hlt; omega
      subst hkl
      rw [List.take_length] at hu
      cbv
      refine ⟨?_, trivial⟩
      have e1 : u = left - I (totL l) := by simp only [I] at *; omega
      rw [hr, szv_is (by first | omega | (simp only [I] at *; omega)), e1]

theorem c_toStringS {l : List ByteArray} {xs zs : List (List T)} (hx : rows false l = xs) (hz : rows true l = zs) (hb : totL l ≤ 2 ^ 38) :
    Returns E 111 [.c (.t (.sl false 1 xs))] [] (.c (.t (.sl true 1 zs))) [] := by
  refine fn_walk tb ([], []) ([0, 2, 3, 4, 11], []) (fn := Try.f111) hmix htb Try.func111 rfl (by kernel_rfl) (by kernel_rfl) (Nat.le_of_ble_eq_true (by kernel_rfl)) rfl ?_
  intro ar cm sc bc nt ng ln sz tn idx get set vw rep nf dv ct wr bt bs us ur ap fl on mi mh ms mo mx mn R r hπ hR hr
  have F := PF.of hπ
  have hlen : ln xs = I l.length := by rw [F.ln, ← hx, rows_length]
  have hl : l.length ≤ 2 ^ 38 := Nat.le_trans (len_tot l) hb
  have hget : ∀ (k : Nat) (i : Int), i = I k → (hk : k < l.length) → idx xs i = some (G.cells false l[k]) := fun k i hi hk => by rw [F.idx, ← hx, rows_get, hi, I]; simp [hk]
  have hrp : rep (ln xs) (ln xs) [.str ⟨⟨[]⟩⟩] = some (mid l 0 [.str ⟨⟨[]⟩⟩]) := by
    rw [F.rep, if_pos ⟨by rw [hlen, I]; omega, rfl, by rw [hlen, I]; omega⟩, mid_zero, hlen, I]; simp
  have hmg : ∀ (k : Nat) (i : Int) (out : List (List T)), i = I k → out = mid l k [.str ⟨⟨[]⟩⟩] → k < l.length → get out (tn i) = some [.str ⟨⟨[]⟩⟩] := fun k i out hi ho hk => by
    rw [F.get, F.tn, hi, ho, I]; exact mid_get l _ k hk
  have hms : ∀ (k : Nat) (i : Int) (out : List (List T)), i = I k → out = mid l k [.str ⟨⟨[]⟩⟩] → (hk : k < l.length) → set out (tn i) (G.cells true l[k]) = mid l (k + 1) [.str ⟨⟨[]⟩⟩] := fun k i out hi ho hk => by
    rw [F.set, F.tn, hi, ho, I]; exact mid_set l _ k hk
  have hml : mid l l.length [.str ⟨⟨[]⟩⟩] = zs := by rw [mid_all, hz]
  generalize hm0 : mid l 0 [.str ⟨⟨[]⟩⟩] = m0 at hrp
  cbv
  rw [hrp]
  cbv
  refine aloop_inv [0, 2, 3, 4] [] (fun (a : Nat × Int × List (List T)) => ⟨[(0, .c (.t (.sl false 1 xs))), (2, .c (.t .nil)), (3, .c (.t (.sl true 1 a.2.2))), (4, .c (.t (.int .i64 a.2.1)))], [], [], [], [], []⟩)
    (fun a => a.1 ≤ l.length ∧ a.2.1 = I a.1 ∧ a.2.2 = mid l a.1 [.str ⟨⟨[]⟩⟩]) (fun a => l.length - a.1) (0, 0, m0) ⟨by simp, rfl, hm0.symm⟩ rfl ?_
  rintro ⟨k, i, out⟩ ⟨hk, hi, ho⟩
  simp only at hk hi ho
  cbv
  split
  · rename_i hlt
    simp only [F.lss, hlen, decide_eq_true_eq, hi] at hlt
    have hkl : k < l.length := by simp only [I] at hlt; omega
    have hg := hget k i hi hkl
    have hgo := hmg k i out hi ho hkl
    have hs := hms k i out hi ho hkl
    have hgi : idx out i = some [.str ⟨⟨[]⟩⟩] := by rw [F.idx, if_pos (by rw [hi, I]; omega)]; rw [F.get, F.tn] at hgo; exact hgo
    have hfx : G.tot l[k] ≤ 2 ^ 38 := Nat.le_trans (tot_mem (List.getElem_mem hkl)) hb
    generalize l[k] = x at hg hs hfx
    change idx xs i = some [.str x] at hg
    change set out (tn i) [.str x] = _ at hs
    cbv
    rw [hg]
    cbv
    rw [hgi]
    cbv
    repeat (rw [hgo]; cbv)
    refine ⟨(k + 1, ar .add .i64 i 1, set out (tn i) [.str x]), ⟨by simp only; omega, ?_, hs⟩, by simp only; omega, rfl⟩
    simp only [F.add, hi, IntKind.wrap_i64, I]; omega
  · rename_i hlt
    simp only [F.lss, hlen, decide_eq_false_iff_not, hi] at hlt
    have hkl : k = l.length := by simp only [I] at hlt; omega
    subst hkl
    rw [hml] at ho
    cbv
    exact ⟨by rw [hr, ho], trivial⟩

theorem q_toExprS {l : List Expr} {xs zs : List (List T)} (hx : rows false l = xs) (hz : rows true l = zs) (hb : totL l ≤ 2 ^ 38)
    (ih : ∀ x ∈ l, ∀ {y z : List (List T)}, rows false x.args = y → rows true x.args = z → G.tot x ≤ 2 ^ 38 → Returns E 57 [.agg [.t (.int .i64 x.kind), .t (.str x.name), .t (.sl false 3 y)]] [] (.agg [.t (.int .i64 x.kind), .t (.str x.name), .t (.sl true 3 z)]) []) :
    Returns E 93 [.c (.t (.sl false 3 xs))] [] (.c (.t (.sl true 3 zs))) [] := by
  refine fn_walk tb ([], []) ([0, 2, 3, 4, 11], []) (fn := Try.f93) hmix htb Try.func93 rfl (by kernel_rfl) (by kernel_rfl) (Nat.le_of_ble_eq_true (by kernel_rfl)) rfl ?_
  intro ar cm sc bc nt ng ln sz tn idx get set vw rep nf dv ct wr bt bs us ur ap fl on mi mh ms mo mx mn R r hπ hR hr
  have F := PF.of hπ
  have hlen : ln xs = I l.length := by rw [F.ln, ← hx, rows_length]
  have hl : l.length ≤ 2 ^ 38 := Nat.le_trans (len_tot l) hb
  have hget : ∀ (k : Nat) (i : Int), i = I k → (hk : k < l.length) → idx xs i = some (G.cells false l[k]) := fun k i hi hk => by rw [F.idx, ← hx, rows_get, hi, I]; simp [hk]
  have hrp : rep (ln xs) (ln xs) [.int .i64 0, .str ⟨⟨[]⟩⟩, .nil] = some (mid l 0 [.int .i64 0, .str ⟨⟨[]⟩⟩, .nil]) := by
    rw [F.rep, if_pos ⟨by rw [hlen, I]; omega, rfl, by rw [hlen, I]; omega⟩, mid_zero, hlen, I]; simp
  have hmg : ∀ (k : Nat) (i : Int) (out : List (List T)), i = I k → out = mid l k [.int .i64 0, .str ⟨⟨[]⟩⟩, .nil] → k < l.length → get out (tn i) = some [.int .i64 0, .str ⟨⟨[]⟩⟩, .nil] := fun k i out hi ho hk => by
    rw [F.get, F.tn, hi, ho, I]; exact mid_get l _ k hk
  have hms : ∀ (k : Nat) (i : Int) (out : List (List T)), i = I k → out = mid l k [.int .i64 0, .str ⟨⟨[]⟩⟩, .nil] → (hk : k < l.length) → set out (tn i) (G.cells true l[k]) = mid l (k + 1) [.int .i64 0, .str ⟨⟨[]⟩⟩, .nil] := fun k i out hi ho hk => by
    rw [F.set, F.tn, hi, ho, I]; exact mid_set l _ k hk
  have hml : mid l l.length [.int .i64 0, .str ⟨⟨[]⟩⟩, .nil] = zs := by rw [mid_all, hz]
  generalize hm0 : mid l 0 [.int .i64 0, .str ⟨⟨[]⟩⟩, .nil] = m0 at hrp
  cbv
  rw [hrp]
  cbv
  refine aloop_inv [0, 2, 3, 4] [] (fun (a : Nat × Int × List (List T)) => ⟨[(0, .c (.t (.sl false 3 xs))), (2, .c (.t .nil)), (3, .c (.t (.sl true 3 a.2.2))), (4, .c (.t (.int .i64 a.2.1)))], [], [], [], [], []⟩)
    (fun a => a.1 ≤ l.length ∧ a.2.1 = I a.1 ∧ a.2.2 = mid l a.1 [.int .i64 0, .str ⟨⟨[]⟩⟩, .nil]) (fun a => l.length - a.1) (0, 0, m0) ⟨by simp, rfl, hm0.symm⟩ rfl ?_
  rintro ⟨k, i, out⟩ ⟨hk, hi, ho⟩
  simp only at hk hi ho
  cbv
  split
  · rename_i hlt
    simp only [F.lss, hlen, decide_eq_true_eq, hi] at hlt
    have hkl : k < l.length := by simp only [I] at hlt; omega
    have hg := hget k i hi hkl
    have hgo := hmg k i out hi ho hkl
    have hs := hms k i out hi ho hkl
    have hgi : idx out i = some [.int .i64 0, .str ⟨⟨[]⟩⟩, .nil] := by rw [F.idx, if_pos (by rw [hi, I]; omega)]; rw [F.get, F.tn] at hgo; exact hgo
    have hfx : G.tot l[k] ≤ 2 ^ 38 := Nat.le_trans (tot_mem (List.getElem_mem hkl)) hb
    have ih1 := @ih l[k] (List.getElem_mem hkl)
    generalize l[k] = x at hg hs hfx ih1
    obtain ⟨x0, x1, x2⟩ := x
    simp only [Expr.cells] at hg hs
    generalize hxx2 : rows false x2 = yx2 at hg
    generalize hzx2 : rows true x2 = zx2 at hs
    cbv
    rw [hg]
    cbv
    refine ⟨_, ⟨(hR ▸ ih1 hxx2 hzx2 hfx : R 57 _ _ _ _), rfl⟩, ?_⟩
    cbv
    rw [hgi]
    cbv
    repeat (rw [hgo]; cbv)
    refine ⟨(k + 1, ar .add .i64 i 1, set out (tn i) [.int .i64 x0, .str x1, .sl true 3 zx2]), ⟨by simp only; omega, ?_, hs⟩, by simp only; omega, rfl⟩
    simp only [F.add, hi, IntKind.wrap_i64, I]; omega
  · rename_i hlt
    simp only [F.lss, hlen, decide_eq_false_iff_not, hi] at hlt
    have hkl : k = l.length := by simp only [I] at hlt; omega
    subst hkl
    rw [hml] at ho
    cbv
    exact ⟨by rw [hr, ho], trivial⟩

theorem d_toExpr {a0 : Int} {a1 : ByteArray} {a2 : List Expr} {xa2 za2 : List (List T)} (hxa2 : rows false a2 = xa2) (hza2 : rows true a2 = za2) (hb : G.tot (⟨a0, a1, a2⟩ : Expr) ≤ 2 ^ 38)
    (ih : Returns E 93 [.c (.t (.sl false 3 xa2))] [] (.c (.t (.sl true 3 za2))) []) :
    Returns E 57 [.agg [.t (.int .i64 a0), .t (.str a1), .t (.sl false 3 xa2)]] [] (.agg [.t (.int .i64 a0), .t (.str a1), .t (.sl true 3 za2)]) [] := by
  refine fn_walk tb ([], []) ([0, 1, 2, 3], []) (fn := Try.f57) hmix htb Try.func57 rfl (by kernel_rfl) (by kernel_rfl) (Nat.le_of_ble_eq_true (by kernel_rfl)) rfl ?_
  intro ar cm sc bc nt ng ln sz tn idx get set vw rep nf dv ct wr bt bs us ur ap fl on mi mh ms mo mx mn R r hπ hR hr
  have F := PF.of hπ
  have htot := Expr.tot (⟨a0, a1, a2⟩ : Expr)
  simp only at htot
  cbv
  refine ⟨_, ⟨(hR ▸ ih : R 93 _ _ _ _), rfl⟩, ?_⟩
  cbv
  exact ⟨hr.symm, trivial⟩

theorem e_toExpr : ∀ x : Expr, ∀ {y z : List (List T)}, rows false x.args = y → rows true x.args = z → G.tot x ≤ 2 ^ 38 → Returns E 57 [.agg [.t (.int .i64 x.kind), .t (.str x.name), .t (.sl false 3 y)]] [] (.agg [.t (.int .i64 x.kind), .t (.str x.name), .t (.sl true 3 z)]) [] := by
  refine Expr.ind fun k n l0 ih => ?_
  intro y z hy hz hb
  exact d_toExpr hy hz hb (q_toExprS hy hz (by show totL l0 ≤ _; rw [Expr.tot] at hb; simp only at hb; omega) ih)
theorem c_toExpr {a0 : Int} {a1 : ByteArray} {a2 : List Expr} {xa2 za2 : List (List T)} (hxa2 : rows false a2 = xa2) (hza2 : rows true a2 = za2) (hb : G.tot (⟨a0, a1, a2⟩ : Expr) ≤ 2 ^ 38) :
    Returns E 57 [.agg [.t (.int .i64 a0), .t (.str a1), .t (.sl false 3 xa2)]] [] (.agg [.t (.int .i64 a0), .t (.str a1), .t (.sl true 3 za2)]) [] := e_toExpr (⟨a0, a1, a2⟩ : Expr) hxa2 hza2 hb
theorem c_toExprS {l : List Expr} {xs zs : List (List T)} (hx : rows false l = xs) (hz : rows true l = zs) (hb : totL l ≤ 2 ^ 38) :
    Returns E 93 [.c (.t (.sl false 3 xs))] [] (.c (.t (.sl true 3 zs))) [] := q_toExprS hx hz hb fun x _ => e_toExpr x

theorem c_toRule {a0 : ByteArray} {a1 : ByteArray} {a2 : List ByteArray} {a3 : List ByteArray} {a4 : Int} {a5 : ByteArray} {a6 : List Expr} {xa2 za2 : List (List T)} (hxa2 : rows false a2 = xa2) (hza2 : rows true a2 = za2) {xa3 za3 : List (List T)} (hxa3 : rows false a3 = xa3) (hza3 : rows true a3 = za3) {xa6 za6 : List (List T)} (hxa6 : rows false a6 = xa6) (hza6 : rows true a6 = za6) (hb : G.tot (⟨a0, a1, a2, a3, ⟨a4, a5, a6⟩⟩ : Rule) ≤ 2 ^ 38) :
    Returns E 103 [.agg [.t (.str a0), .t (.str a1), .t (.sl false 1 xa2), .t (.sl false 1 xa3), .t (.int .i64 a4), .t (.str a5), .t (.sl false 3 xa6)]] [] (.agg [.t (.str a0), .t (.str a1), .t (.sl true 1 za2), .t (.sl true 1 za3), .t (.int .i64 a4), .t (.str a5), .t (.sl true 3 za6)]) [] := by
  refine fn_walk tb ([], []) ([0, 1, 2, 3], []) (fn := Try.f103) hmix htb Try.func103 rfl (by kernel_rfl) (by kernel_rfl) (Nat.le_of_ble_eq_true (by kernel_rfl)) rfl ?_
  intro ar cm sc bc nt ng ln sz tn idx get set vw rep nf dv ct wr bt bs us ur ap fl on mi mh ms mo mx mn R r hπ hR hr
  have F := PF.of hπ
  have htot := Rule.tot (⟨a0, a1, a2, a3, ⟨a4, a5, a6⟩⟩ : Rule)
  simp only at htot
  cbv
  refine ⟨_, ⟨(hR ▸ c_toStringS hxa2 hza2 (by omega) : R 111 _ _ _ _), rfl⟩, ?_⟩
  cbv
  refine ⟨_, ⟨(hR ▸ c_toStringS hxa3 hza3 (by omega) : R 111 _ _ _ _), rfl⟩, ?_⟩
  cbv
  refine ⟨_, ⟨(hR ▸ c_toExpr hxa6 hza6 (by omega) : R 57 _ _ _ _), rfl⟩, ?_⟩
  cbv
  exact ⟨hr.symm, trivial⟩

theorem c_toRuleS {l : List Rule} {xs zs : List (List T)} (hx : rows false l = xs) (hz : rows true l = zs) (hb : totL l ≤ 2 ^ 38) :
    Returns E 69 [.c (.t (.sl false 7 xs))] [] (.c (.t (.sl true 7 zs))) [] := by
  refine fn_walk tb ([], []) ([0, 2, 3, 4, 11], []) (fn := Try.f69) hmix htb Try.func69 rfl (by kernel_rfl) (by kernel_rfl) (Nat.le_of_ble_eq_true (by kernel_rfl)) rfl ?_
  intro ar cm sc bc nt ng ln sz tn idx get set vw rep nf dv ct wr bt bs us ur ap fl on mi mh ms mo mx mn R r hπ hR hr
  have F := PF.of hπ
  have hlen : ln xs = I l.length := by rw [F.ln, ← hx, rows_length]
  have hl : l.length ≤ 2 ^ 38 := Nat.le_trans (len_tot l) hb
  have hget : ∀ (k : Nat) (i : Int), i = I k → (hk : k < l.length) → idx xs i = some (G.cells false l[k]) := fun k i hi hk => by rw [F.idx, ← hx, rows_get, hi, I]; simp [hk]
  have hrp : rep (ln xs) (ln xs) [.str ⟨⟨[]⟩⟩, .str ⟨⟨[]⟩⟩, .nil, .nil, .int .i64 0, .str ⟨⟨[]⟩⟩, .nil] = some (mid l 0 [.str ⟨⟨[]⟩⟩, .str ⟨⟨[]⟩⟩, .nil, .nil, .int .i64 0, .str ⟨⟨[]⟩⟩, .nil]) := by
    rw [F.rep, if_pos ⟨by rw [hlen, I]; omega, rfl, by rw [hlen, I]; omega⟩, mid_zero, hlen, I]; simp
  have hmg : ∀ (k : Nat) (i : Int) (out : List (List T)), i = I k → out = mid l k [.str ⟨⟨[]⟩⟩, .str ⟨⟨[]⟩⟩, .nil, .nil, .int .i64 0, .str ⟨⟨[]⟩⟩, .nil] → k < l.length → get out (tn i) = some [.str ⟨⟨[]⟩⟩, .str ⟨⟨[]⟩⟩, .nil, .nil, .int .i64 0, .str ⟨⟨[]⟩⟩, .nil] := fun k i out hi ho hk => by
    rw [F.get, F.tn, hi, ho, I]; exact mid_get l _ k hk
  have hms : ∀ (k : Nat) (i : Int) (out : List (List T)), i = I k → out = mid l k [.str ⟨⟨[]⟩⟩, .str ⟨⟨[]⟩⟩, .nil, .nil, .int .i64 0, .str ⟨⟨[]⟩⟩, .nil] → (hk : k < l.length) → set out (tn i) (G.cells true l[k]) = mid l (k + 1) [.str ⟨⟨[]⟩⟩, .str ⟨⟨[]⟩⟩, .nil, .nil, .int .i64 0, .str ⟨⟨[]⟩⟩, .nil] := fun k i out hi ho hk => by
    rw [F.set, F.tn, hi, ho, I]; exact mid_set l _ k hk
  have hml : mid l l.length [.str ⟨⟨[]⟩⟩, .str ⟨⟨[]⟩⟩, .nil, .nil, .int .i64 0, .str ⟨⟨[]⟩⟩, .nil] = zs := by rw [mid_all, hz]
  generalize hm0 : mid l 0 [.str ⟨⟨[]⟩⟩, .str ⟨⟨[]⟩⟩, .nil, .nil, .int .i64 0, .str ⟨⟨[]⟩⟩, .nil] = m0 at hrp
  cbv
  rw [hrp]
  cbv
  refine aloop_inv [0, 2, 3, 4] [] (fun (a : Nat × Int × List (List T)) => ⟨[(0, .c (.t (.sl false 7 xs))), (2, .c (.t .nil)), (3, .c (.t (.sl true 7 a.2.2))), (4, .c (.t (.int .i64 a.2.1)))], [], [], [], [], []⟩)
    (fun a => a.1 ≤ l.length ∧ a.2.1 = I a.1 ∧ a.2.2 = mid l a.1 [.str ⟨⟨[]⟩⟩, .str ⟨⟨[]⟩⟩, .nil, .nil, .int .i64 0, .str ⟨⟨[]⟩⟩, .nil]) (fun a => l.length - a.1) (0, 0, m0) ⟨by simp, rfl, hm0.symm⟩ rfl ?_
  rintro ⟨k, i, out⟩ ⟨hk, hi, ho⟩
  simp only at hk hi ho
  cbv
  split
  · rename_i hlt
    simp only [F.lss, hlen, decide_eq_true_eq, hi] at hlt
    have hkl : k < l.length := by simp only [I] at hlt; omega
    have hg := hget k i hi hkl
    have hgo := hmg k i out hi ho hkl
    have hs := hms k i out hi ho hkl
    have hgi : idx out i = some [.str ⟨⟨[]⟩⟩, .str ⟨⟨[]⟩⟩, .nil, .nil, .int .i64 0, .str ⟨⟨[]⟩⟩, .nil] := by rw [F.idx, if_pos (by rw [hi, I]; omega)]; rw [F.get, F.tn] at hgo; exact hgo
    have hfx : G.tot l[k] ≤ 2 ^ 38 := Nat.le_trans (tot_mem (List.getElem_mem hkl)) hb
    generalize l[k] = x at hg hs hfx
    obtain ⟨x0, x1, x2, x3, ⟨x4, x5, x6⟩⟩ := x
    simp only [Rule.cells] at hg hs
    generalize hxx2 : rows false x2 = yx2 at hg
    generalize hzx2 : rows true x2 = zx2 at hs
    generalize hxx3 : rows false x3 = yx3 at hg
    generalize hzx3 : rows true x3 = zx3 at hs
    generalize hxx6 : rows false x6 = yx6 at hg
    generalize hzx6 : rows true x6 = zx6 at hs
    cbv
    rw [hg]
    cbv
    refine ⟨_, ⟨(hR ▸ c_toRule hxx2 hzx2 hxx3 hzx3 hxx6 hzx6 hfx : R 103 _ _ _ _), rfl⟩, ?_⟩
    cbv
    rw [hgi]
    cbv
    repeat (rw [hgo]; cbv)
    refine ⟨(k + 1, ar .add .i64 i 1, set out (tn i) [.str x0, .str x1, .sl true 1 zx2, .sl true 1 zx3, .int .i64 x4, .str x5, .sl true 3 zx6]), ⟨by simp only; omega, ?_, hs⟩, by simp only; omega, rfl⟩
    simp only [F.add, hi, IntKind.wrap_i64, I]; omega
  · rename_i hlt
    simp only [F.lss, hlen, decide_eq_false_iff_not, hi] at hlt
    have hkl : k = l.length := by simp only [I] at hlt; omega
    subst hkl
    rw [hml] at ho
    cbv
    exact ⟨by rw [hr, ho], trivial⟩

theorem c_toProgram {a0 : List Rule} {xa0 za0 : List (List T)} (hxa0 : rows false a0 = xa0) (hza0 : rows true a0 = za0) (hb : G.tot (⟨a0⟩ : Program) ≤ 2 ^ 38) :
    Returns E 28 [.agg [.t (.sl false 7 xa0)]] [] (.agg [.t (.sl true 7 za0)]) [] := by
  refine fn_walk tb ([], []) ([0, 1, 2, 3], []) (fn := Try.f28) hmix htb Try.func28 rfl (by kernel_rfl) (by kernel_rfl) (Nat.le_of_ble_eq_true (by kernel_rfl)) rfl ?_
  intro ar cm sc bc nt ng ln sz tn idx get set vw rep nf dv ct wr bt bs us ur ap fl on mi mh ms mo mx mn R r hπ hR hr
  have F := PF.of hπ
  have htot := Program.tot (⟨a0⟩ : Program)
  simp only at htot
  cbv
  refine ⟨_, ⟨(hR ▸ c_toRuleS hxa0 hza0 (by omega) : R 69 _ _ _ _), rfl⟩, ?_⟩
  cbv
  exact ⟨hr.symm, trivial⟩

theorem c_toResidual {a0 : List Rule} {a1 : Int} {a2 : ByteArray} {a3 : List Expr} {xa0 za0 : List (List T)} (hxa0 : rows false a0 = xa0) (hza0 : rows true a0 = za0) {xa3 za3 : List (List T)} (hxa3 : rows false a3 = xa3) (hza3 : rows true a3 = za3) (hb : G.tot (⟨⟨a0⟩, ⟨a1, a2, a3⟩⟩ : Residual) ≤ 2 ^ 38) :
    Returns E 59 [.agg [.t (.sl false 7 xa0), .t (.int .i64 a1), .t (.str a2), .t (.sl false 3 xa3)]] [] (.agg [.t (.sl true 7 za0), .t (.int .i64 a1), .t (.str a2), .t (.sl true 3 za3)]) [] := by
  refine fn_walk tb ([], []) ([0, 1, 2, 3], []) (fn := Try.f59) hmix htb Try.func59 rfl (by kernel_rfl) (by kernel_rfl) (Nat.le_of_ble_eq_true (by kernel_rfl)) rfl ?_
  intro ar cm sc bc nt ng ln sz tn idx get set vw rep nf dv ct wr bt bs us ur ap fl on mi mh ms mo mx mn R r hπ hR hr
  have F := PF.of hπ
  have htot := Residual.tot (⟨⟨a0⟩, ⟨a1, a2, a3⟩⟩ : Residual)
  simp only at htot
  cbv
  refine ⟨_, ⟨(hR ▸ c_toProgram hxa0 hza0 (by omega) : R 28 _ _ _ _), rfl⟩, ?_⟩
  cbv
  refine ⟨_, ⟨(hR ▸ c_toExpr hxa3 hza3 (by omega) : R 57 _ _ _ _), rfl⟩, ?_⟩
  cbv
  exact ⟨hr.symm, trivial⟩

theorem c_toVariant {a0 : Int} {a1 : List Rule} {a2 : Int} {a3 : ByteArray} {a4 : List Expr} {a5 : Int} {a6 : Int} {xa1 za1 : List (List T)} (hxa1 : rows false a1 = xa1) (hza1 : rows true a1 = za1) {xa4 za4 : List (List T)} (hxa4 : rows false a4 = xa4) (hza4 : rows true a4 = za4) (hb : G.tot (⟨a0, ⟨⟨a1⟩, ⟨a2, a3, a4⟩⟩, a5, a6⟩ : Variant) ≤ 2 ^ 38) :
    Returns E 42 [.agg [.t (.int .i64 a0), .t (.sl false 7 xa1), .t (.int .i64 a2), .t (.str a3), .t (.sl false 3 xa4), .t (.int .i64 a5), .t (.int .i64 a6)]] [] (.agg [.t (.int .i64 a0), .t (.sl true 7 za1), .t (.int .i64 a2), .t (.str a3), .t (.sl true 3 za4), .t (.int .i64 a5), .t (.int .i64 a6)]) [] := by
  refine fn_walk tb ([], []) ([0, 1, 2, 3], []) (fn := Try.f42) hmix htb Try.func42 rfl (by kernel_rfl) (by kernel_rfl) (Nat.le_of_ble_eq_true (by kernel_rfl)) rfl ?_
  intro ar cm sc bc nt ng ln sz tn idx get set vw rep nf dv ct wr bt bs us ur ap fl on mi mh ms mo mx mn R r hπ hR hr
  have F := PF.of hπ
  have htot := Variant.tot (⟨a0, ⟨⟨a1⟩, ⟨a2, a3, a4⟩⟩, a5, a6⟩ : Variant)
  simp only at htot
  cbv
  refine ⟨_, ⟨(hR ▸ c_toResidual hxa1 hza1 hxa4 hza4 (by omega) : R 59 _ _ _ _), rfl⟩, ?_⟩
  cbv
  exact ⟨hr.symm, trivial⟩

theorem c_toVariantS {l : List Variant} {xs zs : List (List T)} (hx : rows false l = xs) (hz : rows true l = zs) (hb : totL l ≤ 2 ^ 38) :
    Returns E 14 [.c (.t (.sl false 7 xs))] [] (.c (.t (.sl true 7 zs))) [] := by
  refine fn_walk tb ([], []) ([0, 2, 3, 4, 11], []) (fn := Try.f14) hmix htb Try.func14 rfl (by kernel_rfl) (by kernel_rfl) (Nat.le_of_ble_eq_true (by kernel_rfl)) rfl ?_
  intro ar cm sc bc nt ng ln sz tn idx get set vw rep nf dv ct wr bt bs us ur ap fl on mi mh ms mo mx mn R r hπ hR hr
  have F := PF.of hπ
  have hlen : ln xs = I l.length := by rw [F.ln, ← hx, rows_length]
  have hl : l.length ≤ 2 ^ 38 := Nat.le_trans (len_tot l) hb
  have hget : ∀ (k : Nat) (i : Int), i = I k → (hk : k < l.length) → idx xs i = some (G.cells false l[k]) := fun k i hi hk => by rw [F.idx, ← hx, rows_get, hi, I]; simp [hk]
  have hrp : rep (ln xs) (ln xs) [.int .i64 0, .nil, .int .i64 0, .str ⟨⟨[]⟩⟩, .nil, .int .i64 0, .int .i64 0] = some (mid l 0 [.int .i64 0, .nil, .int .i64 0, .str ⟨⟨[]⟩⟩, .nil, .int .i64 0, .int .i64 0]) := by
    rw [F.rep, if_pos ⟨by rw [hlen, I]; omega, rfl, by rw [hlen, I]; omega⟩, mid_zero, hlen, I]; simp
  have hmg : ∀ (k : Nat) (i : Int) (out : List (List T)), i = I k → out = mid l k [.int .i64 0, .nil, .int .i64 0, .str ⟨⟨[]⟩⟩, .nil, .int .i64 0, .int .i64 0] → k < l.length → get out (tn i) = some [.int .i64 0, .nil, .int .i64 0, .str ⟨⟨[]⟩⟩, .nil, .int .i64 0, .int .i64 0] := fun k i out hi ho hk => by
    rw [F.get, F.tn, hi, ho, I]; exact mid_get l _ k hk
  have hms : ∀ (k : Nat) (i : Int) (out : List (List T)), i = I k → out = mid l k [.int .i64 0, .nil, .int .i64 0, .str ⟨⟨[]⟩⟩, .nil, .int .i64 0, .int .i64 0] → (hk : k < l.length) → set out (tn i) (G.cells true l[k]) = mid l (k + 1) [.int .i64 0, .nil, .int .i64 0, .str ⟨⟨[]⟩⟩, .nil, .int .i64 0, .int .i64 0] := fun k i out hi ho hk => by
    rw [F.set, F.tn, hi, ho, I]; exact mid_set l _ k hk
  have hml : mid l l.length [.int .i64 0, .nil, .int .i64 0, .str ⟨⟨[]⟩⟩, .nil, .int .i64 0, .int .i64 0] = zs := by rw [mid_all, hz]
  generalize hm0 : mid l 0 [.int .i64 0, .nil, .int .i64 0, .str ⟨⟨[]⟩⟩, .nil, .int .i64 0, .int .i64 0] = m0 at hrp
  cbv
  rw [hrp]
  cbv
  refine aloop_inv [0, 2, 3, 4] [] (fun (a : Nat × Int × List (List T)) => ⟨[(0, .c (.t (.sl false 7 xs))), (2, .c (.t .nil)), (3, .c (.t (.sl true 7 a.2.2))), (4, .c (.t (.int .i64 a.2.1)))], [], [], [], [], []⟩)
    (fun a => a.1 ≤ l.length ∧ a.2.1 = I a.1 ∧ a.2.2 = mid l a.1 [.int .i64 0, .nil, .int .i64 0, .str ⟨⟨[]⟩⟩, .nil, .int .i64 0, .int .i64 0]) (fun a => l.length - a.1) (0, 0, m0) ⟨by simp, rfl, hm0.symm⟩ rfl ?_
  rintro ⟨k, i, out⟩ ⟨hk, hi, ho⟩
  simp only at hk hi ho
  cbv
  split
  · rename_i hlt
    simp only [F.lss, hlen, decide_eq_true_eq, hi] at hlt
    have hkl : k < l.length := by simp only [I] at hlt; omega
    have hg := hget k i hi hkl
    have hgo := hmg k i out hi ho hkl
    have hs := hms k i out hi ho hkl
    have hgi : idx out i = some [.int .i64 0, .nil, .int .i64 0, .str ⟨⟨[]⟩⟩, .nil, .int .i64 0, .int .i64 0] := by rw [F.idx, if_pos (by rw [hi, I]; omega)]; rw [F.get, F.tn] at hgo; exact hgo
    have hfx : G.tot l[k] ≤ 2 ^ 38 := Nat.le_trans (tot_mem (List.getElem_mem hkl)) hb
    generalize l[k] = x at hg hs hfx
    obtain ⟨x0, ⟨⟨x1⟩, ⟨x2, x3, x4⟩⟩, x5, x6⟩ := x
    simp only [Variant.cells] at hg hs
    generalize hxx1 : rows false x1 = yx1 at hg
    generalize hzx1 : rows true x1 = zx1 at hs
    generalize hxx4 : rows false x4 = yx4 at hg
    generalize hzx4 : rows true x4 = zx4 at hs
    cbv
    rw [hg]
    cbv
    refine ⟨_, ⟨(hR ▸ c_toVariant hxx1 hzx1 hxx4 hzx4 hfx : R 42 _ _ _ _), rfl⟩, ?_⟩
    cbv
    rw [hgi]
    cbv
    repeat (rw [hgo]; cbv)
    refine ⟨(k + 1, ar .add .i64 i 1, set out (tn i) [.int .i64 x0, .sl true 7 zx1, .int .i64 x2, .str x3, .sl true 3 zx4, .int .i64 x5, .int .i64 x6]), ⟨by simp only; omega, ?_, hs⟩, by simp only; omega, rfl⟩
    simp only [F.add, hi, IntKind.wrap_i64, I]; omega
  · rename_i hlt
    simp only [F.lss, hlen, decide_eq_false_iff_not, hi] at hlt
    have hkl : k = l.length := by simp only [I] at hlt; omega
    subst hkl
    rw [hml] at ho
    cbv
    exact ⟨by rw [hr, ho], trivial⟩

theorem c_eqStringS {l m : List ByteArray} {xs ys : List (List T)} (hx : rows false l = xs) (hy : rows false m = ys) (hf : finL l) :
    Returns E 112 [.c (.t (.sl false 1 xs)), .c (.t (.sl false 1 ys))] [] (.c (.t (.bool (same l m)))) [] := by
  refine fn_walk tb ([], []) ([0, 1, 4, 5, 10, 14, 25], []) (fn := Try.f112) hmix htb Try.func112 rfl (by kernel_rfl) (by kernel_rfl) (Nat.le_of_ble_eq_true (by kernel_rfl)) rfl ?_
  intro ar cm sc bc nt ng ln sz tn idx get set vw rep nf dv ct wr bt bs us ur ap fl on mi mh ms mo mx mn R r hπ hR hr
  have F := PF.of hπ
  have hlen : ln xs = I l.length := by rw [F.ln, ← hx, rows_length]
  have hlen' : ln ys = I m.length := by rw [F.ln, ← hy, rows_length]
  have hl : l.length ≤ 9223372036854775807 := hf.1
  have hget : ∀ (k : Nat) (i : Int), i = I k → (hk : k < l.length) → idx xs i = some (G.cells false l[k]) := fun k i hi hk => by rw [F.idx, ← hx, rows_get, hi, I]; simp [hk]
  have hget' : ∀ (k : Nat) (i : Int), i = I k → (hk : k < m.length) → idx ys i = some (G.cells false m[k]) := fun k i hi hk => by rw [F.idx, ← hy, rows_get, hi, I]; simp [hk]
  cbv
  split
  · rename_i h
    simp only [F.neq, hlen, hlen', decide_eq_true_eq] at h
    cbv
    exact ⟨by rw [hr, same_false.2 fun e => h (by rw [e])], trivial⟩
  · rename_i h
    simp only [F.neq, hlen, hlen', decide_eq_false_iff_not, Decidable.not_not] at h
    have hlm : l.length = m.length := by simp only [I] at h; omega
    cbv
    refine aloop_inv [0, 1, 4, 5] [] (fun (a : Nat × Int) => ⟨[(0, .c (.t (.sl false 1 xs))), (1, .c (.t (.sl false 1 ys))), (4, .c (.t (.bool false))), (5, .c (.t (.int .i64 a.2)))], [], [], [], [], []⟩)
      (fun a => a.1 ≤ l.length ∧ a.2 = I a.1 ∧ l.take a.1 = m.take a.1) (fun a => l.length - a.1) (0, 0) ⟨by simp, rfl, rfl⟩ rfl ?_
    rintro ⟨k, i⟩ ⟨hk, hi, ht⟩
    simp only at hk hi ht
    cbv
    split
    · rename_i hlt
      simp only [F.lss, hlen, decide_eq_true_eq, hi] at hlt
      have hkl : k < l.length := by simp only [I] at hlt; omega
      have hkm : k < m.length := by omega
      have hg := hget k i hi hkl
      have hg' := hget' k i hi hkm
      have hst : l[k] = m[k] → l.take (k + 1) = m.take (k + 1) := take_eq_succ ht hkl hkm
      have heq : l = m → l[k] = m[k] := fun e => by subst e; rfl
      have hfx := hf.2 l[k] (List.getElem_mem hkl)
      generalize l[k] = x at hg hst heq hfx
      generalize m[k] = y at hg' hst heq
      change idx xs i = some [.str x] at hg
      change idx ys i = some [.str y] at hg'
      cbv
      rw [hg]
      cbv
      rw [hg']
      cbv
      split
      · rename_i h
        simp only [F.sneq, decide_eq_true_eq] at h
        cbv
        exact ⟨by rw [hr, same_false.2 fun e => h (heq e)], trivial⟩
      · rename_i h
        simp only [F.sneq, decide_eq_false_iff_not, Decidable.not_not] at h
        cbv
        refine ⟨(k + 1, ar .add .i64 i 1), ⟨by simp only; omega, ?_, hst h⟩, by simp only; omega, rfl⟩
        simp only [F.add, hi, IntKind.wrap_i64, I]; omega
    · rename_i hlt
      simp only [F.lss, hlen, decide_eq_false_iff_not, hi] at hlt
      have hkl : k = l.length := by simp only [I] at hlt; omega
      subst hkl
      rw [List.take_length, hlm, List.take_length] at ht
      cbv
      exact ⟨by rw [hr, same_iff.2 ht], trivial⟩

theorem q_eqExprS {l m : List Expr} {xs ys : List (List T)} (hx : rows false l = xs) (hy : rows false m = ys) (hf : finL l)
    (ih : ∀ x ∈ l, ∀ {x' : Expr} {y y' : List (List T)}, rows false x.args = y → rows false x'.args = y' → G.fin x → Returns E 63 [.agg [.t (.int .i64 x.kind), .t (.str x.name), .t (.sl false 3 y)], .agg [.t (.int .i64 x'.kind), .t (.str x'.name), .t (.sl false 3 y')]] [] (.c (.t (.bool (same x x')))) []) :
    Returns E 98 [.c (.t (.sl false 3 xs)), .c (.t (.sl false 3 ys))] [] (.c (.t (.bool (same l m)))) [] := by
  refine fn_walk tb ([], []) ([0, 1, 4, 5, 10, 14, 26], []) (fn := Try.f98) hmix htb Try.func98 rfl (by kernel_rfl) (by kernel_rfl) (Nat.le_of_ble_eq_true (by kernel_rfl)) rfl ?_
  intro ar cm sc bc nt ng ln sz tn idx get set vw rep nf dv ct wr bt bs us ur ap fl on mi mh ms mo mx mn R r hπ hR hr
  have F := PF.of hπ
  have hlen : ln xs = I l.length := by rw [F.ln, ← hx, rows_length]
  have hlen' : ln ys = I m.length := by rw [F.ln, ← hy, rows_length]
  have hl : l.length ≤ 9223372036854775807 := hf.1
  have hget : ∀ (k : Nat) (i : Int), i = I k → (hk : k < l.length) → idx xs i = some (G.cells false l[k]) := fun k i hi hk => by rw [F.idx, ← hx, rows_get, hi, I]; simp [hk]
  have hget' : ∀ (k : Nat) (i : Int), i = I k → (hk : k < m.length) → idx ys i = some (G.cells false m[k]) := fun k i hi hk => by rw [F.idx, ← hy, rows_get, hi, I]; simp [hk]
  cbv
  split
  · rename_i h
    simp only [F.neq, hlen, hlen', decide_eq_true_eq] at h
    cbv
    exact ⟨by rw [hr, same_false.2 fun e => h (by rw [e])], trivial⟩
  · rename_i h
    simp only [F.neq, hlen, hlen', decide_eq_false_iff_not, Decidable.not_not] at h
    have hlm : l.length = m.length := by simp only [I] at h; omega
    cbv
    refine aloop_inv [0, 1, 4, 5] [] (fun (a : Nat × Int) => ⟨[(0, .c (.t (.sl false 3 xs))), (1, .c (.t (.sl false 3 ys))), (4, .c (.t (.bool false))), (5, .c (.t (.int .i64 a.2)))], [], [], [], [], []⟩)
      (fun a => a.1 ≤ l.length ∧ a.2 = I a.1 ∧ l.take a.1 = m.take a.1) (fun a => l.length - a.1) (0, 0) ⟨by simp, rfl, rfl⟩ rfl ?_
    rintro ⟨k, i⟩ ⟨hk, hi, ht⟩
    simp only at hk hi ht
    cbv
    split
    · rename_i hlt
      simp only [F.lss, hlen, decide_eq_true_eq, hi] at hlt
      have hkl : k < l.length := by simp only [I] at hlt; omega
      have hkm : k < m.length := by omega
      have hg := hget k i hi hkl
      have hg' := hget' k i hi hkm
      have hst : l[k] = m[k] → l.take (k + 1) = m.take (k + 1) := take_eq_succ ht hkl hkm
      have heq : l = m → l[k] = m[k] := fun e => by subst e; rfl
      have hfx := hf.2 l[k] (List.getElem_mem hkl)
      have ih1 := @ih l[k] (List.getElem_mem hkl)
      generalize l[k] = x at hg hst heq hfx ih1
      generalize m[k] = y at hg' hst heq
      obtain ⟨x0, x1, x2⟩ := x
      obtain ⟨w0, w1, w2⟩ := y
      simp only [Expr.cells] at hg hg'
      generalize hxx2 : rows false x2 = yx2 at hg
      generalize hxw2 : rows false w2 = yw2 at hg'
      cbv
      rw [hg]
      cbv
      rw [hg']
      cbv
      have hc := ih1 (x' := ⟨w0, w1, w2⟩) hxx2 hxw2 hfx
      generalize hv : same _ _ = v at hc
      refine ⟨_, ⟨(hR ▸ hc : R 63 _ _ _ _), rfl⟩, ?_⟩
      cbv
      split
      · rename_i h
        simp only [F.nt, Bool.not_eq_true'] at h
        subst h
        cbv
        exact ⟨by rw [hr, same_false.2 fun e => same_false.1 hv (heq e)], trivial⟩
      · rename_i h
        simp only [F.nt, Bool.not_eq_false'] at h
        subst h
        cbv
        refine ⟨(k + 1, ar .add .i64 i 1), ⟨by simp only; omega, ?_, hst (same_iff.1 hv)⟩, by simp only; omega, rfl⟩
        simp only [F.add, hi, IntKind.wrap_i64, I]; omega
    · rename_i hlt
      simp only [F.lss, hlen, decide_eq_false_iff_not, hi] at hlt
      have hkl : k = l.length := by simp only [I] at hlt; omega
      subst hkl
      rw [List.take_length, hlm, List.take_length] at ht
      cbv
      exact ⟨by rw [hr, same_iff.2 ht], trivial⟩

theorem d_eqExpr {a0 : Int} {a1 : ByteArray} {a2 : List Expr} {b0 : Int} {b1 : ByteArray} {b2 : List Expr} {xa2 : List (List T)} (hxa2 : rows false a2 = xa2) {xb2 : List (List T)} (hxb2 : rows false b2 = xb2) (hf : G.fin (⟨a0, a1, a2⟩ : Expr))
    (ih : Returns E 98 [.c (.t (.sl false 3 xa2)), .c (.t (.sl false 3 xb2))] [] (.c (.t (.bool (same a2 b2)))) []) :
    Returns E 63 [.agg [.t (.int .i64 a0), .t (.str a1), .t (.sl false 3 xa2)], .agg [.t (.int .i64 b0), .t (.str b1), .t (.sl false 3 xb2)]] [] (.c (.t (.bool (same (⟨a0, a1, a2⟩ : Expr) (⟨b0, b1, b2⟩ : Expr))))) [] := by
  refine fn_walk tb ([], []) ([0, 1, 2, 3, 4, 9, 14, 20], []) (fn := Try.f63) hmix htb Try.func63 rfl (by kernel_rfl) (by kernel_rfl) (Nat.le_of_ble_eq_true (by kernel_rfl)) rfl ?_
  intro ar cm sc bc nt ng ln sz tn idx get set vw rep nf dv ct wr bt bs us ur ap fl on mi mh ms mo mx mn R r hπ hR hr
  have F := PF.of hπ
  have hfx := hf
  rw [Expr.fin] at hfx
  obtain ⟨hf1, hf2⟩ := hfx
  have hinj : (⟨a0, a1, a2⟩ : Expr) = (⟨b0, b1, b2⟩ : Expr) → a0 = b0 ∧ a1 = b1 ∧ a2 = b2 := fun e => by cases e; simp
  have hmk : a0 = b0 ∧ a1 = b1 ∧ a2 = b2 → (⟨a0, a1, a2⟩ : Expr) = (⟨b0, b1, b2⟩ : Expr) := fun e => by obtain ⟨e0, e1, e2⟩ := e; cases e0; cases e1; cases e2; rfl
  generalize (⟨a0, a1, a2⟩ : Expr) = A at hinj hmk hr hf
  generalize (⟨b0, b1, b2⟩ : Expr) = B at hinj hmk hr
  cbv
  split
  · rename_i h
    simp only [F.neq, decide_eq_true_eq] at h
    cbv
    exact ⟨by rw [hr, same_false.2 fun e => h (hinj e).1], trivial⟩
  · rename_i h0
    simp only [F.neq, decide_eq_false_iff_not, Decidable.not_not] at h0
    cbv
    split
    · rename_i h
      simp only [F.sneq, decide_eq_true_eq] at h
      cbv
      exact ⟨by rw [hr, same_false.2 fun e => h (hinj e).2.1], trivial⟩
    · rename_i h1
      simp only [F.sneq, decide_eq_false_iff_not, Decidable.not_not] at h1
      cbv
      have hc := ih
      generalize hv2 : same _ _ = v2 at hc
      refine ⟨_, ⟨(hR ▸ hc : R 98 _ _ _ _), rfl⟩, ?_⟩
      cbv
      split
      · rename_i h
        simp only [F.nt, Bool.not_eq_true'] at h
        subst h
        cbv
        exact ⟨by rw [hr, same_false.2 fun e => same_false.1 hv2 (hinj e).2.2], trivial⟩
      · rename_i h
        simp only [F.nt, Bool.not_eq_false'] at h
        subst h
        cbv
        exact ⟨by rw [hr, same_iff.2 (hmk ⟨h0, h1, same_iff.1 hv2⟩)], trivial⟩

theorem e_eqExpr : ∀ x : Expr, ∀ {x' : Expr} {y y' : List (List T)}, rows false x.args = y → rows false x'.args = y' → G.fin x → Returns E 63 [.agg [.t (.int .i64 x.kind), .t (.str x.name), .t (.sl false 3 y)], .agg [.t (.int .i64 x'.kind), .t (.str x'.name), .t (.sl false 3 y')]] [] (.c (.t (.bool (same x x')))) [] := by
  refine Expr.ind fun k n l0 ih => ?_
  intro x' y y' hy hy' hf
  obtain ⟨k', n', bs⟩ := x'
  exact d_eqExpr hy hy' hf (q_eqExprS hy hy' ((Expr.fin _).1 hf).2 ih)
theorem c_eqExpr {a0 : Int} {a1 : ByteArray} {a2 : List Expr} {b0 : Int} {b1 : ByteArray} {b2 : List Expr} {xa2 : List (List T)} (hxa2 : rows false a2 = xa2) {xb2 : List (List T)} (hxb2 : rows false b2 = xb2) (hf : G.fin (⟨a0, a1, a2⟩ : Expr)) :
    Returns E 63 [.agg [.t (.int .i64 a0), .t (.str a1), .t (.sl false 3 xa2)], .agg [.t (.int .i64 b0), .t (.str b1), .t (.sl false 3 xb2)]] [] (.c (.t (.bool (same (⟨a0, a1, a2⟩ : Expr) (⟨b0, b1, b2⟩ : Expr))))) [] := e_eqExpr (⟨a0, a1, a2⟩ : Expr) (x' := (⟨b0, b1, b2⟩ : Expr)) hxa2 hxb2 hf
theorem c_eqExprS {l m : List Expr} {xs ys : List (List T)} (hx : rows false l = xs) (hy : rows false m = ys) (hf : finL l) :
    Returns E 98 [.c (.t (.sl false 3 xs)), .c (.t (.sl false 3 ys))] [] (.c (.t (.bool (same l m)))) [] := q_eqExprS hx hy hf fun x _ => e_eqExpr x

theorem c_eqRule {a0 : ByteArray} {a1 : ByteArray} {a2 : List ByteArray} {a3 : List ByteArray} {a4 : Int} {a5 : ByteArray} {a6 : List Expr} {b0 : ByteArray} {b1 : ByteArray} {b2 : List ByteArray} {b3 : List ByteArray} {b4 : Int} {b5 : ByteArray} {b6 : List Expr} {xa2 : List (List T)} (hxa2 : rows false a2 = xa2) {xa3 : List (List T)} (hxa3 : rows false a3 = xa3) {xa6 : List (List T)} (hxa6 : rows false a6 = xa6) {xb2 : List (List T)} (hxb2 : rows false b2 = xb2) {xb3 : List (List T)} (hxb3 : rows false b3 = xb3) {xb6 : List (List T)} (hxb6 : rows false b6 = xb6) (hf : G.fin (⟨a0, a1, a2, a3, ⟨a4, a5, a6⟩⟩ : Rule)) :
    Returns E 109 [.agg [.t (.str a0), .t (.str a1), .t (.sl false 1 xa2), .t (.sl false 1 xa3), .t (.int .i64 a4), .t (.str a5), .t (.sl false 3 xa6)], .agg [.t (.str b0), .t (.str b1), .t (.sl false 1 xb2), .t (.sl false 1 xb3), .t (.int .i64 b4), .t (.str b5), .t (.sl false 3 xb6)]] [] (.c (.t (.bool (same (⟨a0, a1, a2, a3, ⟨a4, a5, a6⟩⟩ : Rule) (⟨b0, b1, b2, b3, ⟨b4, b5, b6⟩⟩ : Rule))))) [] := by
  refine fn_walk tb ([], []) ([0, 1, 2, 3, 4, 9, 14, 20, 26, 32], []) (fn := Try.f109) hmix htb Try.func109 rfl (by kernel_rfl) (by kernel_rfl) (Nat.le_of_ble_eq_true (by kernel_rfl)) rfl ?_
  intro ar cm sc bc nt ng ln sz tn idx get set vw rep nf dv ct wr bt bs us ur ap fl on mi mh ms mo mx mn R r hπ hR hr
  have F := PF.of hπ
  have hfx := hf
  change a0.size ≤ BIG ∧ a1.size ≤ BIG ∧ finL a2 ∧ finL a3 ∧ G.fin (⟨a4, a5, a6⟩ : Expr) at hfx
  obtain ⟨hf0, hf1, hf2, hf3, hf4⟩ := hfx
  have hinj : (⟨a0, a1, a2, a3, ⟨a4, a5, a6⟩⟩ : Rule) = (⟨b0, b1, b2, b3, ⟨b4, b5, b6⟩⟩ : Rule) → a0 = b0 ∧ a1 = b1 ∧ a2 = b2 ∧ a3 = b3 ∧ (⟨a4, a5, a6⟩ : Expr) = ⟨b4, b5, b6⟩ := fun e => by cases e; simp
  have hmk : a0 = b0 ∧ a1 = b1 ∧ a2 = b2 ∧ a3 = b3 ∧ (⟨a4, a5, a6⟩ : Expr) = ⟨b4, b5, b6⟩ → (⟨a0, a1, a2, a3, ⟨a4, a5, a6⟩⟩ : Rule) = (⟨b0, b1, b2, b3, ⟨b4, b5, b6⟩⟩ : Rule) := fun e => by obtain ⟨e0, e1, e2, e3, e4⟩ := e; cases e0; cases e1; cases e2; cases e3; cases e4; rfl
  generalize (⟨a0, a1, a2, a3, ⟨a4, a5, a6⟩⟩ : Rule) = A at hinj hmk hr hf
  generalize (⟨b0, b1, b2, b3, ⟨b4, b5, b6⟩⟩ : Rule) = B at hinj hmk hr
  cbv
  split
  · rename_i h
    simp only [F.sneq, decide_eq_true_eq] at h
    cbv
    exact ⟨by rw [hr, same_false.2 fun e => h (hinj e).1], trivial⟩
  · rename_i h0
    simp only [F.sneq, decide_eq_false_iff_not, Decidable.not_not] at h0
    cbv
    split
    · rename_i h
      simp only [F.sneq, decide_eq_true_eq] at h
      cbv
      exact ⟨by rw [hr, same_false.2 fun e => h (hinj e).2.1], trivial⟩
    · rename_i h1
      simp only [F.sneq, decide_eq_false_iff_not, Decidable.not_not] at h1
      cbv
      have hc := c_eqStringS hxa2 hxb2 hf2
      generalize hv2 : same _ _ = v2 at hc
      refine ⟨_, ⟨(hR ▸ hc : R 112 _ _ _ _), rfl⟩, ?_⟩
      cbv
      split
      · rename_i h
        simp only [F.nt, Bool.not_eq_true'] at h
        subst h
        cbv
        exact ⟨by rw [hr, same_false.2 fun e => same_false.1 hv2 (hinj e).2.2.1], trivial⟩
      · rename_i h
        simp only [F.nt, Bool.not_eq_false'] at h
        subst h
        cbv
        have hc := c_eqStringS hxa3 hxb3 hf3
        generalize hv3 : same _ _ = v3 at hc
        refine ⟨_, ⟨(hR ▸ hc : R 112 _ _ _ _), rfl⟩, ?_⟩
        cbv
        split
        · rename_i h
          simp only [F.nt, Bool.not_eq_true'] at h
          subst h
          cbv
          exact ⟨by rw [hr, same_false.2 fun e => same_false.1 hv3 (hinj e).2.2.2.1], trivial⟩
        · rename_i h
          simp only [F.nt, Bool.not_eq_false'] at h
          subst h
          cbv
          have hc := c_eqExpr (b0 := b4) (b1 := b5) (b2 := b6) hxa6 hxb6 hf4
          generalize hv4 : same _ _ = v4 at hc
          refine ⟨_, ⟨(hR ▸ hc : R 63 _ _ _ _), rfl⟩, ?_⟩
          cbv
          split
          · rename_i h
            simp only [F.nt, Bool.not_eq_true'] at h
            subst h
            cbv
            exact ⟨by rw [hr, same_false.2 fun e => same_false.1 hv4 (hinj e).2.2.2.2], trivial⟩
          · rename_i h
            simp only [F.nt, Bool.not_eq_false'] at h
            subst h
            cbv
            exact ⟨by rw [hr, same_iff.2 (hmk ⟨h0, h1, same_iff.1 hv2, same_iff.1 hv3, same_iff.1 hv4⟩)], trivial⟩

theorem c_eqRuleS {l m : List Rule} {xs ys : List (List T)} (hx : rows false l = xs) (hy : rows false m = ys) (hf : finL l) :
    Returns E 73 [.c (.t (.sl false 7 xs)), .c (.t (.sl false 7 ys))] [] (.c (.t (.bool (same l m)))) [] := by
  refine fn_walk tb ([], []) ([0, 1, 4, 5, 10, 14, 26], []) (fn := Try.f73) hmix htb Try.func73 rfl (by kernel_rfl) (by kernel_rfl) (Nat.le_of_ble_eq_true (by kernel_rfl)) rfl ?_
  intro ar cm sc bc nt ng ln sz tn idx get set vw rep nf dv ct wr bt bs us ur ap fl on mi mh ms mo mx mn R r hπ hR hr
  have F := PF.of hπ
  have hlen : ln xs = I l.length := by rw [F.ln, ← hx, rows_length]
  have hlen' : ln ys = I m.length := by rw [F.ln, ← hy, rows_length]
  have hl : l.length ≤ 9223372036854775807 := hf.1
  have hget : ∀ (k : Nat) (i : Int), i = I k → (hk : k < l.length) → idx xs i = some (G.cells false l[k]) := fun k i hi hk => by rw [F.idx, ← hx, rows_get, hi, I]; simp [hk]
  have hget' : ∀ (k : Nat) (i : Int), i = I k → (hk : k < m.length) → idx ys i = some (G.cells false m[k]) := fun k i hi hk => by rw [F.idx, ← hy, rows_get, hi, I]; simp [hk]
  cbv
  split
  · rename_i h
    simp only [F.neq, hlen, hlen', decide_eq_true_eq] at h
    cbv
    exact ⟨by rw [hr, same_false.2 fun e => h (by rw [e])], trivial⟩
  · rename_i h
    simp only [F.neq, hlen, hlen', decide_eq_false_iff_not, Decidable.not_not] at h
    have hlm : l.length = m.length := by simp only [I] at h; omega
    cbv
    refine aloop_inv [0, 1, 4, 5] [] (fun (a : Nat × Int) => ⟨[(0, .c (.t (.sl false 7 xs))), (1, .c (.t (.sl false 7 ys))), (4, .c (.t (.bool false))), (5, .c (.t (.int .i64 a.2)))], [], [], [], [], []⟩)
      (fun a => a.1 ≤ l.length ∧ a.2 = I a.1 ∧ l.take a.1 = m.take a.1) (fun a => l.length - a.1) (0, 0) ⟨by simp, rfl, rfl⟩ rfl ?_
    rintro ⟨k, i⟩ ⟨hk, hi, ht⟩
    simp only at hk hi ht
    cbv
    split
    · rename_i hlt
      simp only [F.lss, hlen, decide_eq_true_eq, hi] at hlt
      have hkl : k < l.length := by simp only [I] at hlt; omega
      have hkm : k < m.length := by omega
      have hg := hget k i hi hkl
      have hg' := hget' k i hi hkm
      have hst : l[k] = m[k] → l.take (k + 1) = m.take (k + 1) := take_eq_succ ht hkl hkm
      have heq : l = m → l[k] = m[k] := fun e => by subst e; rfl
      have hfx := hf.2 l[k] (List.getElem_mem hkl)
      generalize l[k] = x at hg hst heq hfx
      generalize m[k] = y at hg' hst heq
      obtain ⟨x0, x1, x2, x3, ⟨x4, x5, x6⟩⟩ := x
      obtain ⟨w0, w1, w2, w3, ⟨w4, w5, w6⟩⟩ := y
      simp only [Rule.cells] at hg hg'
      generalize hxx2 : rows false x2 = yx2 at hg
      generalize hxx3 : rows false x3 = yx3 at hg
      generalize hxx6 : rows false x6 = yx6 at hg
      generalize hxw2 : rows false w2 = yw2 at hg'
      generalize hxw3 : rows false w3 = yw3 at hg'
      generalize hxw6 : rows false w6 = yw6 at hg'
      cbv
      rw [hg]
      cbv
      rw [hg']
      cbv
      have hc := c_eqRule (b0 := w0) (b1 := w1) (b2 := w2) (b3 := w3) (b4 := w4) (b5 := w5) (b6 := w6) hxx2 hxx3 hxx6 hxw2 hxw3 hxw6 hfx
      generalize hv : same _ _ = v at hc
      refine ⟨_, ⟨(hR ▸ hc : R 109 _ _ _ _), rfl⟩, ?_⟩
      cbv
      split
      · rename_i h
        simp only [F.nt, Bool.not_eq_true'] at h
        subst h
        cbv
        exact ⟨by rw [hr, same_false.2 fun e => same_false.1 hv (heq e)], trivial⟩
      · rename_i h
        simp only [F.nt, Bool.not_eq_false'] at h
        subst h
        cbv
        refine ⟨(k + 1, ar .add .i64 i 1), ⟨by simp only; omega, ?_, hst (same_iff.1 hv)⟩, by simp only; omega, rfl⟩
        simp only [F.add, hi, IntKind.wrap_i64, I]; omega
    · rename_i hlt
      simp only [F.lss, hlen, decide_eq_false_iff_not, hi] at hlt
      have hkl : k = l.length := by simp only [I] at hlt; omega
      subst hkl
      rw [List.take_length, hlm, List.take_length] at ht
      cbv
      exact ⟨by rw [hr, same_iff.2 ht], trivial⟩

theorem c_eqProgram {a0 : List Rule} {b0 : List Rule} {xa0 : List (List T)} (hxa0 : rows false a0 = xa0) {xb0 : List (List T)} (hxb0 : rows false b0 = xb0) (hf : G.fin (⟨a0⟩ : Program)) :
    Returns E 30 [.agg [.t (.sl false 7 xa0)], .agg [.t (.sl false 7 xb0)]] [] (.c (.t (.bool (same (⟨a0⟩ : Program) (⟨b0⟩ : Program))))) [] := by
  refine fn_walk tb ([], []) ([0, 1, 2, 3, 4, 10], []) (fn := Try.f30) hmix htb Try.func30 rfl (by kernel_rfl) (by kernel_rfl) (Nat.le_of_ble_eq_true (by kernel_rfl)) rfl ?_
  intro ar cm sc bc nt ng ln sz tn idx get set vw rep nf dv ct wr bt bs us ur ap fl on mi mh ms mo mx mn R r hπ hR hr
  have F := PF.of hπ
  have hfx := hf
  change finL a0 at hfx
  have hf0 := hfx
  have hinj : (⟨a0⟩ : Program) = (⟨b0⟩ : Program) → a0 = b0 := fun e => by cases e; simp
  have hmk : a0 = b0 → (⟨a0⟩ : Program) = (⟨b0⟩ : Program) := fun e => by have e0 := e; cases e0; rfl
  generalize (⟨a0⟩ : Program) = A at hinj hmk hr hf
  generalize (⟨b0⟩ : Program) = B at hinj hmk hr
  cbv
  have hc := c_eqRuleS hxa0 hxb0 hf0
  generalize hv0 : same _ _ = v0 at hc
  refine ⟨_, ⟨(hR ▸ hc : R 73 _ _ _ _), rfl⟩, ?_⟩
  cbv
  split
  · rename_i h
    simp only [F.nt, Bool.not_eq_true'] at h
    subst h
    cbv
    exact ⟨by rw [hr, same_false.2 fun e => same_false.1 hv0 (hinj e)], trivial⟩
  · rename_i h
    simp only [F.nt, Bool.not_eq_false'] at h
    subst h
    cbv
    exact ⟨by rw [hr, same_iff.2 (hmk (same_iff.1 hv0))], trivial⟩

theorem c_eqResidual {a0 : List Rule} {a1 : Int} {a2 : ByteArray} {a3 : List Expr} {b0 : List Rule} {b1 : Int} {b2 : ByteArray} {b3 : List Expr} {xa0 : List (List T)} (hxa0 : rows false a0 = xa0) {xa3 : List (List T)} (hxa3 : rows false a3 = xa3) {xb0 : List (List T)} (hxb0 : rows false b0 = xb0) {xb3 : List (List T)} (hxb3 : rows false b3 = xb3) (hf : G.fin (⟨⟨a0⟩, ⟨a1, a2, a3⟩⟩ : Residual)) :
    Returns E 45 [.agg [.t (.sl false 7 xa0), .t (.int .i64 a1), .t (.str a2), .t (.sl false 3 xa3)], .agg [.t (.sl false 7 xb0), .t (.int .i64 b1), .t (.str b2), .t (.sl false 3 xb3)]] [] (.c (.t (.bool (same (⟨⟨a0⟩, ⟨a1, a2, a3⟩⟩ : Residual) (⟨⟨b0⟩, ⟨b1, b2, b3⟩⟩ : Residual))))) [] := by
  refine fn_walk tb ([], []) ([0, 1, 2, 3, 4, 10, 16], []) (fn := Try.f45) hmix htb Try.func45 rfl (by kernel_rfl) (by kernel_rfl) (Nat.le_of_ble_eq_true (by kernel_rfl)) rfl ?_
  intro ar cm sc bc nt ng ln sz tn idx get set vw rep nf dv ct wr bt bs us ur ap fl on mi mh ms mo mx mn R r hπ hR hr
  have F := PF.of hπ
  have hfx := hf
  change G.fin (⟨a0⟩ : Program) ∧ G.fin (⟨a1, a2, a3⟩ : Expr) at hfx
  obtain ⟨hf0, hf1⟩ := hfx
  have hinj : (⟨⟨a0⟩, ⟨a1, a2, a3⟩⟩ : Residual) = (⟨⟨b0⟩, ⟨b1, b2, b3⟩⟩ : Residual) → (⟨a0⟩ : Program) = ⟨b0⟩ ∧ (⟨a1, a2, a3⟩ : Expr) = ⟨b1, b2, b3⟩ := fun e => by cases e; simp
  have hmk : (⟨a0⟩ : Program) = ⟨b0⟩ ∧ (⟨a1, a2, a3⟩ : Expr) = ⟨b1, b2, b3⟩ → (⟨⟨a0⟩, ⟨a1, a2, a3⟩⟩ : Residual) = (⟨⟨b0⟩, ⟨b1, b2, b3⟩⟩ : Residual) := fun e => by obtain ⟨e0, e1⟩ := e; cases e0; cases e1; rfl
  generalize (⟨⟨a0⟩, ⟨a1, a2, a3⟩⟩ : Residual) = A at hinj hmk hr hf
  generalize (⟨⟨b0⟩, ⟨b1, b2, b3⟩⟩ : Residual) = B at hinj hmk hr
  cbv
  have hc := c_eqProgram (b0 := b0) hxa0 hxb0 hf0
  generalize hv0 : same _ _ = v0 at hc
  refine ⟨_, ⟨(hR ▸ hc : R 30 _ _ _ _), rfl⟩, ?_⟩
  cbv
  split
  · rename_i h
    simp only [F.nt, Bool.not_eq_true'] at h
    subst h
    cbv
    exact ⟨by rw [hr, same_false.2 fun e => same_false.1 hv0 (hinj e).1], trivial⟩
  · rename_i h
    simp only [F.nt, Bool.not_eq_false'] at h
    subst h
    cbv
    have hc := c_eqExpr (b0 := b1) (b1 := b2) (b2 := b3) hxa3 hxb3 hf1
    generalize hv1 : same _ _ = v1 at hc
    refine ⟨_, ⟨(hR ▸ hc : R 63 _ _ _ _), rfl⟩, ?_⟩
    cbv
    split
    · rename_i h
      simp only [F.nt, Bool.not_eq_true'] at h
      subst h
      cbv
      exact ⟨by rw [hr, same_false.2 fun e => same_false.1 hv1 (hinj e).2], trivial⟩
    · rename_i h
      simp only [F.nt, Bool.not_eq_false'] at h
      subst h
      cbv
      exact ⟨by rw [hr, same_iff.2 (hmk ⟨same_iff.1 hv0, same_iff.1 hv1⟩)], trivial⟩

theorem c_eqVariant {a0 : Int} {a1 : List Rule} {a2 : Int} {a3 : ByteArray} {a4 : List Expr} {a5 : Int} {a6 : Int} {b0 : Int} {b1 : List Rule} {b2 : Int} {b3 : ByteArray} {b4 : List Expr} {b5 : Int} {b6 : Int} {xa1 : List (List T)} (hxa1 : rows false a1 = xa1) {xa4 : List (List T)} (hxa4 : rows false a4 = xa4) {xb1 : List (List T)} (hxb1 : rows false b1 = xb1) {xb4 : List (List T)} (hxb4 : rows false b4 = xb4) (hf : G.fin (⟨a0, ⟨⟨a1⟩, ⟨a2, a3, a4⟩⟩, a5, a6⟩ : Variant)) :
    Returns E 16 [.agg [.t (.int .i64 a0), .t (.sl false 7 xa1), .t (.int .i64 a2), .t (.str a3), .t (.sl false 3 xa4), .t (.int .i64 a5), .t (.int .i64 a6)], .agg [.t (.int .i64 b0), .t (.sl false 7 xb1), .t (.int .i64 b2), .t (.str b3), .t (.sl false 3 xb4), .t (.int .i64 b5), .t (.int .i64 b6)]] [] (.c (.t (.bool (same (⟨a0, ⟨⟨a1⟩, ⟨a2, a3, a4⟩⟩, a5, a6⟩ : Variant) (⟨b0, ⟨⟨b1⟩, ⟨b2, b3, b4⟩⟩, b5, b6⟩ : Variant))))) [] := by
  refine fn_walk tb ([], []) ([0, 1, 2, 3, 4, 9, 15, 20, 25], []) (fn := Try.f16) hmix htb Try.func16 rfl (by kernel_rfl) (by kernel_rfl) (Nat.le_of_ble_eq_true (by kernel_rfl)) rfl ?_
  intro ar cm sc bc nt ng ln sz tn idx get set vw rep nf dv ct wr bt bs us ur ap fl on mi mh ms mo mx mn R r hπ hR hr
  have F := PF.of hπ
  have hfx := hf
  change G.fin (⟨⟨a1⟩, ⟨a2, a3, a4⟩⟩ : Residual) at hfx
  have hf1 := hfx
  have hinj : (⟨a0, ⟨⟨a1⟩, ⟨a2, a3, a4⟩⟩, a5, a6⟩ : Variant) = (⟨b0, ⟨⟨b1⟩, ⟨b2, b3, b4⟩⟩, b5, b6⟩ : Variant) → a0 = b0 ∧ (⟨⟨a1⟩, ⟨a2, a3, a4⟩⟩ : Residual) = ⟨⟨b1⟩, ⟨b2, b3, b4⟩⟩ ∧ a5 = b5 ∧ a6 = b6 := fun e => by cases e; simp
  have hmk : a0 = b0 ∧ (⟨⟨a1⟩, ⟨a2, a3, a4⟩⟩ : Residual) = ⟨⟨b1⟩, ⟨b2, b3, b4⟩⟩ ∧ a5 = b5 ∧ a6 = b6 → (⟨a0, ⟨⟨a1⟩, ⟨a2, a3, a4⟩⟩, a5, a6⟩ : Variant) = (⟨b0, ⟨⟨b1⟩, ⟨b2, b3, b4⟩⟩, b5, b6⟩ : Variant) := fun e => by obtain ⟨e0, e1, e2, e3⟩ := e; cases e0; cases e1; cases e2; cases e3; rfl
  generalize (⟨a0, ⟨⟨a1⟩, ⟨a2, a3, a4⟩⟩, a5, a6⟩ : Variant) = A at hinj hmk hr hf
  generalize (⟨b0, ⟨⟨b1⟩, ⟨b2, b3, b4⟩⟩, b5, b6⟩ : Variant) = B at hinj hmk hr
  cbv
  split
  · rename_i h
    simp only [F.neq, decide_eq_true_eq] at h
    cbv
    exact ⟨by rw [hr, same_false.2 fun e => h (hinj e).1], trivial⟩
  · rename_i h0
    simp only [F.neq, decide_eq_false_iff_not, Decidable.not_not] at h0
    cbv
    have hc := c_eqResidual (b0 := b1) (b1 := b2) (b2 := b3) (b3 := b4) hxa1 hxa4 hxb1 hxb4 hf1
    generalize hv1 : same _ _ = v1 at hc
    refine ⟨_, ⟨(hR ▸ hc : R 45 _ _ _ _), rfl⟩, ?_⟩
    cbv
    split
    · rename_i h
      simp only [F.nt, Bool.not_eq_true'] at h
      subst h
      cbv
      exact ⟨by rw [hr, same_false.2 fun e => same_false.1 hv1 (hinj e).2.1], trivial⟩
    · rename_i h
      simp only [F.nt, Bool.not_eq_false'] at h
      subst h
      cbv
      split
      · rename_i h
        simp only [F.neq, decide_eq_true_eq] at h
        cbv
        exact ⟨by rw [hr, same_false.2 fun e => h (hinj e).2.2.1], trivial⟩
      · rename_i h2
        simp only [F.neq, decide_eq_false_iff_not, Decidable.not_not] at h2
        cbv
        split
        · rename_i h
          simp only [F.neq, decide_eq_true_eq] at h
          cbv
          exact ⟨by rw [hr, same_false.2 fun e => h (hinj e).2.2.2], trivial⟩
        · rename_i h3
          simp only [F.neq, decide_eq_false_iff_not, Decidable.not_not] at h3
          cbv
          exact ⟨by rw [hr, same_iff.2 (hmk ⟨h0, same_iff.1 hv1, h2, h3⟩)], trivial⟩

theorem c_eqVariantS {l m : List Variant} {xs ys : List (List T)} (hx : rows false l = xs) (hy : rows false m = ys) (hf : finL l) :
    Returns E 17 [.c (.t (.sl false 7 xs)), .c (.t (.sl false 7 ys))] [] (.c (.t (.bool (same l m)))) [] := by
  refine fn_walk tb ([], []) ([0, 1, 4, 5, 10, 14, 26], []) (fn := Try.f17) hmix htb Try.func17 rfl (by kernel_rfl) (by kernel_rfl) (Nat.le_of_ble_eq_true (by kernel_rfl)) rfl ?_
  intro ar cm sc bc nt ng ln sz tn idx get set vw rep nf dv ct wr bt bs us ur ap fl on mi mh ms mo mx mn R r hπ hR hr
  have F := PF.of hπ
  have hlen : ln xs = I l.length := by rw [F.ln, ← hx, rows_length]
  have hlen' : ln ys = I m.length := by rw [F.ln, ← hy, rows_length]
  have hl : l.length ≤ 9223372036854775807 := hf.1
  have hget : ∀ (k : Nat) (i : Int), i = I k → (hk : k < l.length) → idx xs i = some (G.cells false l[k]) := fun k i hi hk => by rw [F.idx, ← hx, rows_get, hi, I]; simp [hk]
  have hget' : ∀ (k : Nat) (i : Int), i = I k → (hk : k < m.length) → idx ys i = some (G.cells false m[k]) := fun k i hi hk => by rw [F.idx, ← hy, rows_get, hi, I]; simp [hk]
  cbv
  split
  · rename_i h
    simp only [F.neq, hlen, hlen', decide_eq_true_eq] at h
    cbv
    exact ⟨by rw [hr, same_false.2 fun e => h (by rw [e])], trivial⟩
  · rename_i h
    simp only [F.neq, hlen, hlen', decide_eq_false_iff_not, Decidable.not_not] at h
    have hlm : l.length = m.length := by simp only [I] at h; omega
    cbv
    refine aloop_inv [0, 1, 4, 5] [] (fun (a : Nat × Int) => ⟨[(0, .c (.t (.sl false 7 xs))), (1, .c (.t (.sl false 7 ys))), (4, .c (.t (.bool false))), (5, .c (.t (.int .i64 a.2)))], [], [], [], [], []⟩)
      (fun a => a.1 ≤ l.length ∧ a.2 = I a.1 ∧ l.take a.1 = m.take a.1) (fun a => l.length - a.1) (0, 0) ⟨by simp, rfl, rfl⟩ rfl ?_
    rintro ⟨k, i⟩ ⟨hk, hi, ht⟩
    simp only at hk hi ht
    cbv
    split
    · rename_i hlt
      simp only [F.lss, hlen, decide_eq_true_eq, hi] at hlt
      have hkl : k < l.length := by simp only [I] at hlt; omega
      have hkm : k < m.length := by omega
      have hg := hget k i hi hkl
      have hg' := hget' k i hi hkm
      have hst : l[k] = m[k] → l.take (k + 1) = m.take (k + 1) := take_eq_succ ht hkl hkm
      have heq : l = m → l[k] = m[k] := fun e => by subst e; rfl
      have hfx := hf.2 l[k] (List.getElem_mem hkl)
      generalize l[k] = x at hg hst heq hfx
      generalize m[k] = y at hg' hst heq
      obtain ⟨x0, ⟨⟨x1⟩, ⟨x2, x3, x4⟩⟩, x5, x6⟩ := x
      obtain ⟨w0, ⟨⟨w1⟩, ⟨w2, w3, w4⟩⟩, w5, w6⟩ := y
      simp only [Variant.cells] at hg hg'
      generalize hxx1 : rows false x1 = yx1 at hg
      generalize hxx4 : rows false x4 = yx4 at hg
      generalize hxw1 : rows false w1 = yw1 at hg'
      generalize hxw4 : rows false w4 = yw4 at hg'
      cbv
      rw [hg]
      cbv
      rw [hg']
      cbv
      have hc := c_eqVariant (b0 := w0) (b1 := w1) (b2 := w2) (b3 := w3) (b4 := w4) (b5 := w5) (b6 := w6) hxx1 hxx4 hxw1 hxw4 hfx
      generalize hv : same _ _ = v at hc
      refine ⟨_, ⟨(hR ▸ hc : R 16 _ _ _ _), rfl⟩, ?_⟩
      cbv
      split
      · rename_i h
        simp only [F.nt, Bool.not_eq_true'] at h
        subst h
        cbv
        exact ⟨by rw [hr, same_false.2 fun e => same_false.1 hv (heq e)], trivial⟩
      · rename_i h
        simp only [F.nt, Bool.not_eq_false'] at h
        subst h
        cbv
        refine ⟨(k + 1, ar .add .i64 i 1), ⟨by simp only; omega, ?_, hst (same_iff.1 hv)⟩, by simp only; omega, rfl⟩
        simp only [F.add, hi, IntKind.wrap_i64, I]; omega
    · rename_i hlt
      simp only [F.lss, hlen, decide_eq_false_iff_not, hi] at hlt
      have hkl : k = l.length := by simp only [I] at hlt; omega
      subst hkl
      rw [List.take_length, hlm, List.take_length] at ht
      cbv
      exact ⟨by rw [hr, same_iff.2 ht], trivial⟩
end Vx.D.Ytbnagcgfmlmgnaa
