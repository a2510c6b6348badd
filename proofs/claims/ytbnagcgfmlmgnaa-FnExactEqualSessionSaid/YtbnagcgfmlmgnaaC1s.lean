import Derived.Test.YtbnagcgfmlmgnaaC1
/- What the functions that measure, copy and compare the data of a law return. No condition. -/
open Go Vx
namespace Vx.D.Ytbnagcgfmlmgnaa
open Go.Proofs
set_option maxRecDepth 100000
set_option linter.unusedVariables false
set_option linter.unusedSimpArgs false

theorem c_szIntS {l : List Int} {xs : List (List T)} (hx : rows false l = xs) {left : Int} (h0 : 0 ≤ left) (h1 : left ≤ 2 ^ 40) (hf : finL l) :
    Returns E 139 [.c (.t (.sl false 1 xs)), .c (.t (.int .i64 left))] [] (.c (.t (.int .i64 (szv (totL l) left)))) [] := by
  refine fn_walk tb [0, 1, 4, 10] (fn := Try.f139) hmix htb Try.func139 rfl (by kernel_rfl) (by kernel_rfl) (Nat.le_of_ble_eq_true (by kernel_rfl)) rfl ?_
  intro ar cm sc bc nt ng ln sz tn idx get set vw rep nf R r hπ hR hr
  have F := PF.of hπ
  have hlen : ln xs = I l.length := by rw [F.ln, ← hx, rows_length]
  have hl : l.length ≤ 9223372036854775807 := hf.1
  have hz : ∀ l : List Int, (l.map G.tot).sum = 0 := fun l => by
    induction l with
    | nil => rfl
    | cons x l ih => rw [List.map_cons, List.sum_cons, ih]; rfl
  have htot : totL l = l.length + (l.map G.tot).sum := rfl
  rw [hz] at htot
  cbv
  split
  · rename_i h
    cbv
    simp only [F.lss, F.sub, hlen, IntKind.wrap_i64, decide_eq_true_eq] at h
    refine ⟨?_, trivial⟩
    rw [hr, szv_is_neg (by first | omega | (simp only [I] at *; omega))]
  · rename_i h
    simp only [F.lss, F.sub, hlen, IntKind.wrap_i64, decide_eq_false_iff_not] at h
    cbv
    have e1 : ar .sub .i64 left (ln xs) = left - I (totL l) := by simp only [F.sub, hlen, IntKind.wrap_i64, I] at *; omega
    refine ⟨?_, trivial⟩
    rw [hr, szv_is (by first | omega | (simp only [I] at *; omega)), e1]

theorem c_szBinding {a0 : ByteArray} {a1 : Int} {a2 : ByteArray} {a3 : List Expr} {xa3 : List (List T)} (hxa3 : rows false a3 = xa3) {left : Int} (h0 : 0 ≤ left) (h1 : left ≤ 2 ^ 40) (hf : G.fin (⟨a0, ⟨a1, a2, a3⟩⟩ : Binding)) :
    Returns E 171 [.agg [.t (.str a0), .t (.int .i64 a1), .t (.str a2), .t (.sl false 3 xa3)], .c (.t (.int .i64 left))] [] (.c (.t (.int .i64 (szv (G.tot (⟨a0, ⟨a1, a2, a3⟩⟩ : Binding)) left)))) [] := by
  refine fn_walk tb [0, 1, 2, 4, 11, 17] (fn := Try.f171) hmix htb Try.func171 rfl (by kernel_rfl) (by kernel_rfl) (Nat.le_of_ble_eq_true (by kernel_rfl)) rfl ?_
  intro ar cm sc bc nt ng ln sz tn idx get set vw rep nf R r hπ hR hr
  have F := PF.of hπ
  have htot := Binding.tot (⟨a0, ⟨a1, a2, a3⟩⟩ : Binding)
  have hfx := hf
  change a0.size ≤ BIG ∧ G.fin (⟨a1, a2, a3⟩ : Expr) at hfx
  simp only at htot hfx
  obtain ⟨hf0, hf1⟩ := hfx
  cbv
  split
  · rename_i h
    simp only [F.lss, F.sub, F.sz, IntKind.wrap_i64, decide_eq_true_eq] at h
    cbv
    refine ⟨?_, trivial⟩
    rw [hr, szv_is_neg (by first | omega | (simp only [I] at *; omega))]
  · rename_i h
    simp only [F.lss, F.sub, F.sz, IntKind.wrap_i64, decide_eq_false_iff_not] at h
    have hu0 : ar .sub .i64 left (sz a0) = left - I a0.size := by simp only [F.sub, F.sz, IntKind.wrap_i64, I] at *; omega
    have hp0 : 0 ≤ ar .sub .i64 left (sz a0) := by simp only [F.sub, F.sz, IntKind.wrap_i64, I] at *; omega
    generalize ar .sub .i64 left (sz a0) = u0 at *
    cbv
    have hc := c_szExpr hxa3 (left := u0) (by first | omega | (simp only [I] at *; omega)) (by first | omega | (simp only [I] at *; omega)) hf1
    generalize hv1 : szv _ _ = u1 at hc
    refine ⟨_, (hR ▸ hc : R 51 _ _ _ _), ?_⟩
    cbv
    split
    · rename_i h
      simp only [F.lss, decide_eq_true_eq] at h
      have hn := szv_neg hv1 h
      cbv
      refine ⟨?_, trivial⟩
      rw [hr, szv_is_neg (by first | omega | (simp only [I] at *; omega))]
    · rename_i h
      simp only [F.lss, decide_eq_false_iff_not] at h
      have hn1 := szv_pos hv1 h
      cbv
      have e1 : u1 = left - I (G.tot (⟨a0, ⟨a1, a2, a3⟩⟩ : Binding)) := by simp only [I] at *; omega
      refine ⟨?_, trivial⟩
      rw [hr, szv_is (by first | omega | (simp only [I] at *; omega)), e1]

theorem c_szBindingS {l : List Binding} {xs : List (List T)} (hx : rows false l = xs) {left : Int} (h0 : 0 ≤ left) (h1 : left ≤ 2 ^ 40) (hf : finL l) :
    Returns E 140 [.c (.t (.sl false 4 xs)), .c (.t (.int .i64 left))] [] (.c (.t (.int .i64 (szv (totL l) left)))) [] := by
  refine fn_walk tb [0, 1, 4, 5, 11, 15, 25] (fn := Try.f140) hmix htb Try.func140 rfl (by kernel_rfl) (by kernel_rfl) (Nat.le_of_ble_eq_true (by kernel_rfl)) rfl ?_
  intro ar cm sc bc nt ng ln sz tn idx get set vw rep nf R r hπ hR hr
  have F := PF.of hπ
  have hlen : ln xs = I l.length := by rw [F.ln, ← hx, rows_length]
  have hl : l.length ≤ 9223372036854775807 := hf.1
  have hget : ∀ (k : Nat) (i : Int), i = I k → (hk : k < l.length) → idx xs i = some (G.cells false l[k]) := fun k i hi hk => by rw [F.idx, ← hx, rows_get, hi, I]; simp [hk]
  have htot : totL l = l.length + (l.map G.tot).sum := rfl
  cbv
  split
  · rename_i h
    cbv
    simp only [F.lss, F.sub, hlen, IntKind.wrap_i64, decide_eq_true_eq] at h
    refine ⟨?_, trivial⟩
    rw [hr, szv_is_neg (by first | omega | (simp only [I] at *; omega))]
  · rename_i h
    simp only [F.lss, F.sub, hlen, IntKind.wrap_i64, decide_eq_false_iff_not] at h
    cbv
    refine aloop_inv [0, 1, 4, 5] [] (fun (a : Nat × Int × Int) => ⟨[(0, .c (.t (.sl false 4 xs))), (1, .c (.t (.int .i64 a.2.2))), (4, .c (.t (.int .i64 0))), (5, .c (.t (.int .i64 a.2.1)))], [], [], [], [], []⟩)
      (fun a => a.1 ≤ l.length ∧ a.2.1 = I a.1 ∧ a.2.2 = left - I l.length - I ((l.take a.1).map G.tot).sum ∧ 0 ≤ a.2.2) (fun a => l.length - a.1) (0, 0, ar .sub .i64 left (ln xs))
      ⟨by simp, rfl, by simp only [F.sub, hlen, IntKind.wrap_i64, I] at *; simp; omega, by simp only [F.sub, hlen, IntKind.wrap_i64, I] at *; omega⟩ rfl ?_
    rintro ⟨k, i, u⟩ ⟨hk, hi, hu, hu0⟩
    simp only at hk hi hu hu0
    have hsum : ((l.take k).map G.tot).sum ≤ (l.map G.tot).sum := sum_take_le _ _ _
    cbv
    split
    · rename_i hlt
      simp only [F.lss, hlen, decide_eq_true_eq, hi] at hlt
      have hkl : k < l.length := by simp only [I] at hlt; omega
      have hg := hget k i hi hkl
      have htk : ((l.take (k + 1)).map G.tot).sum = ((l.take k).map G.tot).sum + G.tot l[k] := sum_take_succ _ _ _ hkl
      have hfx := hf.2 l[k] (List.getElem_mem hkl)
      have hsum1 : ((l.take (k + 1)).map G.tot).sum ≤ (l.map G.tot).sum := sum_take_le _ _ _
      generalize l[k] = x at hg htk hfx
      obtain ⟨x0, ⟨x1, x2, x3⟩⟩ := x
      simp only [Binding.cells] at hg
      generalize hxx3 : rows false x3 = yx3 at hg
      cbv
      rw [hg]
      cbv
      have hc := c_szBinding hxx3 hu0 (by first | omega | (simp only [I] at *; omega)) hfx
      generalize hv : szv _ _ = v at hc
      refine ⟨_, (hR ▸ hc : R 171 _ _ _ _), ?_⟩
      cbv
      split
      · rename_i h
        simp only [F.lss, decide_eq_true_eq] at h
        have hn := szv_neg hv h
        cbv
        refine ⟨?_, trivial⟩
        rw [hr, szv_is_neg (by first | omega | (simp only [I] at *; omega))]
      · rename_i h
        simp only [F.lss, decide_eq_false_iff_not] at h
        have hn := szv_pos hv h
        cbv
        refine ⟨(k + 1, ar .add .i64 i 1, v), ⟨?_, ?_, ?_, ?_⟩, ?_, rfl⟩ <;> simp only [F.add, IntKind.wrap_i64, I, htk] at * <;> omega
    · rename_i hlt
      simp only [F.lss, hlen, decide_eq_false_iff_not, hi] at hlt
      have hkl : k = l.length := by simp only [I] at hlt; omega
      subst hkl
      rw [List.take_length] at hu
      cbv
      refine ⟨?_, trivial⟩
      have e1 : u = left - I (totL l) := by simp only [I] at *; omega
      rw [hr, szv_is (by first | omega | (simp only [I] at *; omega)), e1]

theorem c_szNode {a0 : Int} {a1 : Int} {a2 : ByteArray} {a3 : List Expr} {a4 : Int} {a5 : List Int} {a6 : ByteArray} {a7 : ByteArray} {a8 : List ByteArray} {a9 : List Binding} {a10 : Int} {xa3 : List (List T)} (hxa3 : rows false a3 = xa3) {xa5 : List (List T)} (hxa5 : rows false a5 = xa5) {xa8 : List (List T)} (hxa8 : rows false a8 = xa8) {xa9 : List (List T)} (hxa9 : rows false a9 = xa9) {left : Int} (h0 : 0 ≤ left) (h1 : left ≤ 2 ^ 40) (hf : G.fin (⟨a0, ⟨a1, a2, a3⟩, a4, a5, a6, a7, a8, a9, a10⟩ : Node)) :
    Returns E 119 [.agg [.t (.int .i64 a0), .t (.int .i64 a1), .t (.str a2), .t (.sl false 3 xa3), .t (.int .i64 a4), .t (.sl false 1 xa5), .t (.str a6), .t (.str a7), .t (.sl false 1 xa8), .t (.sl false 4 xa9), .t (.int .i64 a10)], .c (.t (.int .i64 left))] [] (.c (.t (.int .i64 (szv (G.tot (⟨a0, ⟨a1, a2, a3⟩, a4, a5, a6, a7, a8, a9, a10⟩ : Node)) left)))) [] := by
  refine fn_walk tb [0, 1, 2, 4, 10, 16, 23, 30, 36, 42] (fn := Try.f119) hmix htb Try.func119 rfl (by kernel_rfl) (by kernel_rfl) (Nat.le_of_ble_eq_true (by kernel_rfl)) rfl ?_
  intro ar cm sc bc nt ng ln sz tn idx get set vw rep nf R r hπ hR hr
  have F := PF.of hπ
  have htot := Node.tot (⟨a0, ⟨a1, a2, a3⟩, a4, a5, a6, a7, a8, a9, a10⟩ : Node)
  have hfx := hf
  change G.fin (⟨a1, a2, a3⟩ : Expr) ∧ finL a5 ∧ a6.size ≤ BIG ∧ a7.size ≤ BIG ∧ finL a8 ∧ finL a9 at hfx
  simp only at htot hfx
  obtain ⟨hf0, hf1, hf2, hf3, hf4, hf5⟩ := hfx
  cbv
  have hc := c_szExpr hxa3 (left := left) (by first | omega | (simp only [I] at *; omega)) (by first | omega | (simp only [I] at *; omega)) hf0
  generalize hv0 : szv _ _ = u0 at hc
  refine ⟨_, (hR ▸ hc : R 51 _ _ _ _), ?_⟩
  cbv
  split
  · rename_i h
    simp only [F.lss, decide_eq_true_eq] at h
    have hn := szv_neg hv0 h
    cbv
    refine ⟨?_, trivial⟩
    rw [hr, szv_is_neg (by first | omega | (simp only [I] at *; omega))]
  · rename_i h
    simp only [F.lss, decide_eq_false_iff_not] at h
    have hn0 := szv_pos hv0 h
    cbv
    have hc := c_szIntS hxa5 (left := u0) (by first | omega | (simp only [I] at *; omega)) (by first | omega | (simp only [I] at *; omega)) hf1
    generalize hv1 : szv _ _ = u1 at hc
    refine ⟨_, (hR ▸ hc : R 139 _ _ _ _), ?_⟩
    cbv
    split
    · rename_i h
      simp only [F.lss, decide_eq_true_eq] at h
      have hn := szv_neg hv1 h
      cbv
      refine ⟨?_, trivial⟩
      rw [hr, szv_is_neg (by first | omega | (simp only [I] at *; omega))]
    · rename_i h
      simp only [F.lss, decide_eq_false_iff_not] at h
      have hn1 := szv_pos hv1 h
      cbv
      split
      · rename_i h
        simp only [F.lss, F.sub, F.sz, IntKind.wrap_i64, decide_eq_true_eq] at h
        cbv
        refine ⟨?_, trivial⟩
        rw [hr, szv_is_neg (by first | omega | (simp only [I] at *; omega))]
      · rename_i h
        simp only [F.lss, F.sub, F.sz, IntKind.wrap_i64, decide_eq_false_iff_not] at h
        have hu2 : ar .sub .i64 u1 (sz a6) = u1 - I a6.size := by simp only [F.sub, F.sz, IntKind.wrap_i64, I] at *; omega
        have hp2 : 0 ≤ ar .sub .i64 u1 (sz a6) := by simp only [F.sub, F.sz, IntKind.wrap_i64, I] at *; omega
        generalize ar .sub .i64 u1 (sz a6) = u2 at *
        cbv
        split
        · rename_i h
          simp only [F.lss, F.sub, F.sz, IntKind.wrap_i64, decide_eq_true_eq] at h
          cbv
          refine ⟨?_, trivial⟩
          rw [hr, szv_is_neg (by first | omega | (simp only [I] at *; omega))]
        · rename_i h
          simp only [F.lss, F.sub, F.sz, IntKind.wrap_i64, decide_eq_false_iff_not] at h
          have hu3 : ar .sub .i64 u2 (sz a7) = u2 - I a7.size := by simp only [F.sub, F.sz, IntKind.wrap_i64, I] at *; omega
          have hp3 : 0 ≤ ar .sub .i64 u2 (sz a7) := by simp only [F.sub, F.sz, IntKind.wrap_i64, I] at *; omega
          generalize ar .sub .i64 u2 (sz a7) = u3 at *
          cbv
          have hc := c_szStringS hxa8 (left := u3) (by first | omega | (simp only [I] at *; omega)) (by first | omega | (simp only [I] at *; omega)) hf4
          generalize hv4 : szv _ _ = u4 at hc
          refine ⟨_, (hR ▸ hc : R 110 _ _ _ _), ?_⟩
          cbv
          split
          · rename_i h
            simp only [F.lss, decide_eq_true_eq] at h
            have hn := szv_neg hv4 h
            cbv
            refine ⟨?_, trivial⟩
            rw [hr, szv_is_neg (by first | omega | (simp only [I] at *; omega))]
          · rename_i h
            simp only [F.lss, decide_eq_false_iff_not] at h
            have hn4 := szv_pos hv4 h
            cbv
            have hc := c_szBindingS hxa9 (left := u4) (by first | omega | (simp only [I] at *; omega)) (by first | omega | (simp only [I] at *; omega)) hf5
            generalize hv5 : szv _ _ = u5 at hc
            refine ⟨_, (hR ▸ hc : R 140 _ _ _ _), ?_⟩
            cbv
            split
            · rename_i h
              simp only [F.lss, decide_eq_true_eq] at h
              have hn := szv_neg hv5 h
              cbv
              refine ⟨?_, trivial⟩
              rw [hr, szv_is_neg (by first | omega | (simp only [I] at *; omega))]
            · rename_i h
              simp only [F.lss, decide_eq_false_iff_not] at h
              have hn5 := szv_pos hv5 h
              cbv
              have e1 : u5 = left - I (G.tot (⟨a0, ⟨a1, a2, a3⟩, a4, a5, a6, a7, a8, a9, a10⟩ : Node)) := by simp only [I] at *; omega
              refine ⟨?_, trivial⟩
              rw [hr, szv_is (by first | omega | (simp only [I] at *; omega)), e1]

theorem c_szNodeS {l : List Node} {xs : List (List T)} (hx : rows false l = xs) {left : Int} (h0 : 0 ≤ left) (h1 : left ≤ 2 ^ 40) (hf : finL l) :
    Returns E 90 [.c (.t (.sl false 11 xs)), .c (.t (.int .i64 left))] [] (.c (.t (.int .i64 (szv (totL l) left)))) [] := by
  refine fn_walk tb [0, 1, 4, 5, 11, 15, 25] (fn := Try.f90) hmix htb Try.func90 rfl (by kernel_rfl) (by kernel_rfl) (Nat.le_of_ble_eq_true (by kernel_rfl)) rfl ?_
  intro ar cm sc bc nt ng ln sz tn idx get set vw rep nf R r hπ hR hr
  have F := PF.of hπ
  have hlen : ln xs = I l.length := by rw [F.ln, ← hx, rows_length]
  have hl : l.length ≤ 9223372036854775807 := hf.1
  have hget : ∀ (k : Nat) (i : Int), i = I k → (hk : k < l.length) → idx xs i = some (G.cells false l[k]) := fun k i hi hk => by rw [F.idx, ← hx, rows_get, hi, I]; simp [hk]
  have htot : totL l = l.length + (l.map G.tot).sum := rfl
  cbv
  split
  · rename_i h
    cbv
    simp only [F.lss, F.sub, hlen, IntKind.wrap_i64, decide_eq_true_eq] at h
    refine ⟨?_, trivial⟩
    rw [hr, szv_is_neg (by first | omega | (simp only [I] at *; omega))]
  · rename_i h
    simp only [F.lss, F.sub, hlen, IntKind.wrap_i64, decide_eq_false_iff_not] at h
    cbv
    refine aloop_inv [0, 1, 4, 5] [] (fun (a : Nat × Int × Int) => ⟨[(0, .c (.t (.sl false 11 xs))), (1, .c (.t (.int .i64 a.2.2))), (4, .c (.t (.int .i64 0))), (5, .c (.t (.int .i64 a.2.1)))], [], [], [], [], []⟩)
      (fun a => a.1 ≤ l.length ∧ a.2.1 = I a.1 ∧ a.2.2 = left - I l.length - I ((l.take a.1).map G.tot).sum ∧ 0 ≤ a.2.2) (fun a => l.length - a.1) (0, 0, ar .sub .i64 left (ln xs))
      ⟨by simp, rfl, by simp only [F.sub, hlen, IntKind.wrap_i64, I] at *; simp; omega, by simp only [F.sub, hlen, IntKind.wrap_i64, I] at *; omega⟩ rfl ?_
    rintro ⟨k, i, u⟩ ⟨hk, hi, hu, hu0⟩
    simp only at hk hi hu hu0
    have hsum : ((l.take k).map G.tot).sum ≤ (l.map G.tot).sum := sum_take_le _ _ _
    cbv
    split
    · rename_i hlt
      simp only [F.lss, hlen, decide_eq_true_eq, hi] at hlt
      have hkl : k < l.length := by simp only [I] at hlt; omega
      have hg := hget k i hi hkl
      have htk : ((l.take (k + 1)).map G.tot).sum = ((l.take k).map G.tot).sum + G.tot l[k] := sum_take_succ _ _ _ hkl
      have hfx := hf.2 l[k] (List.getElem_mem hkl)
      have hsum1 : ((l.take (k + 1)).map G.tot).sum ≤ (l.map G.tot).sum := sum_take_le _ _ _
      generalize l[k] = x at hg htk hfx
      obtain ⟨x0, ⟨x1, x2, x3⟩, x4, x5, x6, x7, x8, x9, x10⟩ := x
      simp only [Node.cells] at hg
      generalize hxx3 : rows false x3 = yx3 at hg
      generalize hxx5 : rows false x5 = yx5 at hg
      generalize hxx8 : rows false x8 = yx8 at hg
      generalize hxx9 : rows false x9 = yx9 at hg
      cbv
      rw [hg]
      cbv
      have hc := c_szNode hxx3 hxx5 hxx8 hxx9 hu0 (by first | omega | (simp only [I] at *; omega)) hfx
      generalize hv : szv _ _ = v at hc
      refine ⟨_, (hR ▸ hc : R 119 _ _ _ _), ?_⟩
      cbv
      split
      · rename_i h
        simp only [F.lss, decide_eq_true_eq] at h
        have hn := szv_neg hv h
        cbv
        refine ⟨?_, trivial⟩
        rw [hr, szv_is_neg (by first | omega | (simp only [I] at *; omega))]
      · rename_i h
        simp only [F.lss, decide_eq_false_iff_not] at h
        have hn := szv_pos hv h
        cbv
        refine ⟨(k + 1, ar .add .i64 i 1, v), ⟨?_, ?_, ?_, ?_⟩, ?_, rfl⟩ <;> simp only [F.add, IntKind.wrap_i64, I, htk] at * <;> omega
    · rename_i hlt
      simp only [F.lss, hlen, decide_eq_false_iff_not, hi] at hlt
      have hkl : k = l.length := by simp only [I] at hlt; omega
      subst hkl
      rw [List.take_length] at hu
      cbv
      refine ⟨?_, trivial⟩
      have e1 : u = left - I (totL l) := by simp only [I] at *; omega
      rw [hr, szv_is (by first | omega | (simp only [I] at *; omega)), e1]

theorem c_szTree {a0 : List Node} {xa0 : List (List T)} (hxa0 : rows false a0 = xa0) {left : Int} (h0 : 0 ≤ left) (h1 : left ≤ 2 ^ 40) (hf : G.fin (⟨a0⟩ : Tree)) :
    Returns E 52 [.agg [.t (.sl false 11 xa0)], .c (.t (.int .i64 left))] [] (.c (.t (.int .i64 (szv (G.tot (⟨a0⟩ : Tree)) left)))) [] := by
  refine fn_walk tb [0, 1, 2, 4, 10] (fn := Try.f52) hmix htb Try.func52 rfl (by kernel_rfl) (by kernel_rfl) (Nat.le_of_ble_eq_true (by kernel_rfl)) rfl ?_
  intro ar cm sc bc nt ng ln sz tn idx get set vw rep nf R r hπ hR hr
  have F := PF.of hπ
  have htot := Tree.tot (⟨a0⟩ : Tree)
  have hfx := hf
  change finL a0 at hfx
  simp only at htot hfx
  have hf0 := hfx
  cbv
  have hc := c_szNodeS hxa0 (left := left) (by first | omega | (simp only [I] at *; omega)) (by first | omega | (simp only [I] at *; omega)) hf0
  generalize hv0 : szv _ _ = u0 at hc
  refine ⟨_, (hR ▸ hc : R 90 _ _ _ _), ?_⟩
  cbv
  split
  · rename_i h
    simp only [F.lss, decide_eq_true_eq] at h
    have hn := szv_neg hv0 h
    cbv
    refine ⟨?_, trivial⟩
    rw [hr, szv_is_neg (by first | omega | (simp only [I] at *; omega))]
  · rename_i h
    simp only [F.lss, decide_eq_false_iff_not] at h
    have hn0 := szv_pos hv0 h
    cbv
    have e1 : u0 = left - I (G.tot (⟨a0⟩ : Tree)) := by simp only [I] at *; omega
    refine ⟨?_, trivial⟩
    rw [hr, szv_is (by first | omega | (simp only [I] at *; omega)), e1]

theorem c_szSession {a0 : ByteArray} {a1 : Int} {a2 : ByteArray} {a3 : List Expr} {a4 : List Node} {a5 : List Rule} {a6 : Int} {a7 : ByteArray} {a8 : List Expr} {xa3 : List (List T)} (hxa3 : rows false a3 = xa3) {xa4 : List (List T)} (hxa4 : rows false a4 = xa4) {xa5 : List (List T)} (hxa5 : rows false a5 = xa5) {xa8 : List (List T)} (hxa8 : rows false a8 = xa8) {left : Int} (h0 : 0 ≤ left) (h1 : left ≤ 2 ^ 40) (hf : G.fin (⟨a0, ⟨a1, a2, a3⟩, ⟨a4⟩, ⟨⟨a5⟩, ⟨a6, a7, a8⟩⟩⟩ : Session)) :
    Returns E 21 [.agg [.t (.str a0), .t (.int .i64 a1), .t (.str a2), .t (.sl false 3 xa3), .t (.sl false 11 xa4), .t (.sl false 7 xa5), .t (.int .i64 a6), .t (.str a7), .t (.sl false 3 xa8)], .c (.t (.int .i64 left))] [] (.c (.t (.int .i64 (szv (G.tot (⟨a0, ⟨a1, a2, a3⟩, ⟨a4⟩, ⟨⟨a5⟩, ⟨a6, a7, a8⟩⟩⟩ : Session)) left)))) [] := by
  refine fn_walk tb [0, 1, 2, 4, 11, 17, 23, 29] (fn := Try.f21) hmix htb Try.func21 rfl (by kernel_rfl) (by kernel_rfl) (Nat.le_of_ble_eq_true (by kernel_rfl)) rfl ?_
  intro ar cm sc bc nt ng ln sz tn idx get set vw rep nf R r hπ hR hr
  have F := PF.of hπ
  have htot := Session.tot (⟨a0, ⟨a1, a2, a3⟩, ⟨a4⟩, ⟨⟨a5⟩, ⟨a6, a7, a8⟩⟩⟩ : Session)
  have hfx := hf
  change a0.size ≤ BIG ∧ G.fin (⟨a1, a2, a3⟩ : Expr) ∧ G.fin (⟨a4⟩ : Tree) ∧ G.fin (⟨⟨a5⟩, ⟨a6, a7, a8⟩⟩ : Residual) at hfx
  simp only at htot hfx
  obtain ⟨hf0, hf1, hf2, hf3⟩ := hfx
  cbv
  split
  · rename_i h
    simp only [F.lss, F.sub, F.sz, IntKind.wrap_i64, decide_eq_true_eq] at h
    cbv
    refine ⟨?_, trivial⟩
    rw [hr, szv_is_neg (by first | omega | (simp only [I] at *; omega))]
  · rename_i h
    simp only [F.lss, F.sub, F.sz, IntKind.wrap_i64, decide_eq_false_iff_not] at h
    have hu0 : ar .sub .i64 left (sz a0) = left - I a0.size := by simp only [F.sub, F.sz, IntKind.wrap_i64, I] at *; omega
    have hp0 : 0 ≤ ar .sub .i64 left (sz a0) := by simp only [F.sub, F.sz, IntKind.wrap_i64, I] at *; omega
    generalize ar .sub .i64 left (sz a0) = u0 at *
    cbv
    have hc := c_szExpr hxa3 (left := u0) (by first | omega | (simp only [I] at *; omega)) (by first | omega | (simp only [I] at *; omega)) hf1
    generalize hv1 : szv _ _ = u1 at hc
    refine ⟨_, (hR ▸ hc : R 51 _ _ _ _), ?_⟩
    cbv
    split
    · rename_i h
      simp only [F.lss, decide_eq_true_eq] at h
      have hn := szv_neg hv1 h
      cbv
      refine ⟨?_, trivial⟩
      rw [hr, szv_is_neg (by first | omega | (simp only [I] at *; omega))]
    · rename_i h
      simp only [F.lss, decide_eq_false_iff_not] at h
      have hn1 := szv_pos hv1 h
      cbv
      have hc := c_szTree hxa4 (left := u1) (by first | omega | (simp only [I] at *; omega)) (by first | omega | (simp only [I] at *; omega)) hf2
      generalize hv2 : szv _ _ = u2 at hc
      refine ⟨_, (hR ▸ hc : R 52 _ _ _ _), ?_⟩
      cbv
      split
      · rename_i h
        simp only [F.lss, decide_eq_true_eq] at h
        have hn := szv_neg hv2 h
        cbv
        refine ⟨?_, trivial⟩
        rw [hr, szv_is_neg (by first | omega | (simp only [I] at *; omega))]
      · rename_i h
        simp only [F.lss, decide_eq_false_iff_not] at h
        have hn2 := szv_pos hv2 h
        cbv
        have hc := c_szResidual hxa5 hxa8 (left := u2) (by first | omega | (simp only [I] at *; omega)) (by first | omega | (simp only [I] at *; omega)) hf3
        generalize hv3 : szv _ _ = u3 at hc
        refine ⟨_, (hR ▸ hc : R 53 _ _ _ _), ?_⟩
        cbv
        split
        · rename_i h
          simp only [F.lss, decide_eq_true_eq] at h
          have hn := szv_neg hv3 h
          cbv
          refine ⟨?_, trivial⟩
          rw [hr, szv_is_neg (by first | omega | (simp only [I] at *; omega))]
        · rename_i h
          simp only [F.lss, decide_eq_false_iff_not] at h
          have hn3 := szv_pos hv3 h
          cbv
          have e1 : u3 = left - I (G.tot (⟨a0, ⟨a1, a2, a3⟩, ⟨a4⟩, ⟨⟨a5⟩, ⟨a6, a7, a8⟩⟩⟩ : Session)) := by simp only [I] at *; omega
          refine ⟨?_, trivial⟩
          rw [hr, szv_is (by first | omega | (simp only [I] at *; omega)), e1]

theorem c_toIntS {l : List Int} {xs zs : List (List T)} (hx : rows false l = xs) (hz : rows true l = zs) (hb : totL l ≤ 2 ^ 38) :
    Returns E 141 [.c (.t (.sl false 1 xs))] [] (.c (.t (.sl true 1 zs))) [] := by
  refine fn_walk tb [0, 2, 3, 4, 11] (fn := Try.f141) hmix htb Try.func141 rfl (by kernel_rfl) (by kernel_rfl) (Nat.le_of_ble_eq_true (by kernel_rfl)) rfl ?_
  intro ar cm sc bc nt ng ln sz tn idx get set vw rep nf R r hπ hR hr
  have F := PF.of hπ
  have hlen : ln xs = I l.length := by rw [F.ln, ← hx, rows_length]
  have hl : l.length ≤ 2 ^ 38 := Nat.le_trans (len_tot l) hb
  have hget : ∀ (k : Nat) (i : Int), i = I k → (hk : k < l.length) → idx xs i = some (G.cells false l[k]) := fun k i hi hk => by rw [F.idx, ← hx, rows_get, hi, I]; simp [hk]
  have hrp : rep (ln xs) (ln xs) [.int .i64 0] = some (mid l 0 [.int .i64 0]) := by
    rw [F.rep, if_pos ⟨by rw [hlen, I]; omega, rfl, by rw [hlen, I]; omega⟩, mid_zero, hlen, I]; simp
  have hmg : ∀ (k : Nat) (i : Int) (out : List (List T)), i = I k → out = mid l k [.int .i64 0] → k < l.length → get out (tn i) = some [.int .i64 0] := fun k i out hi ho hk => by
    rw [F.get, F.tn, hi, ho, I]; exact mid_get l _ k hk
  have hms : ∀ (k : Nat) (i : Int) (out : List (List T)), i = I k → out = mid l k [.int .i64 0] → (hk : k < l.length) → set out (tn i) (G.cells true l[k]) = mid l (k + 1) [.int .i64 0] := fun k i out hi ho hk => by
    rw [F.set, F.tn, hi, ho, I]; exact mid_set l _ k hk
  have hml : mid l l.length [.int .i64 0] = zs := by rw [mid_all, hz]
  generalize hm0 : mid l 0 [.int .i64 0] = m0 at hrp
  cbv
  rw [hrp]
  cbv
  refine aloop_inv [0, 2, 3, 4] [] (fun (a : Nat × Int × List (List T)) => ⟨[(0, .c (.t (.sl false 1 xs))), (2, .c (.t .nil)), (3, .c (.t (.sl true 1 a.2.2))), (4, .c (.t (.int .i64 a.2.1)))], [], [], [], [], []⟩)
    (fun a => a.1 ≤ l.length ∧ a.2.1 = I a.1 ∧ a.2.2 = mid l a.1 [.int .i64 0]) (fun a => l.length - a.1) (0, 0, m0) ⟨by simp, rfl, hm0.symm⟩ rfl ?_
  rintro ⟨k, i, out⟩ ⟨hk, hi, ho⟩
  simp only at hk hi ho
  cbv
  split
  · rename_i hlt
    simp only [F.lss, hlen, decide_eq_true_eq, hi] at hlt
    have hkl : k < l.length := by simp only [I] at hlt; omega
    have hg := hget k i hi hkl
    have hgo := hmg k i out hi ho hkl
    have hs := hms k i out hi ho hkl
    have hgi : idx out i = some [.int .i64 0] := by rw [F.idx, if_pos (by rw [hi, I]; omega)]; rw [F.get, F.tn] at hgo; exact hgo
    have hfx : G.tot l[k] ≤ 2 ^ 38 := Nat.le_trans (tot_mem (List.getElem_mem hkl)) hb
    generalize l[k] = x at hg hs hfx
    change idx xs i = some [.int .i64 x] at hg
    change set out (tn i) [.int .i64 x] = _ at hs
    cbv
    rw [hg]
    cbv
    rw [hgi]
    cbv
    repeat (rw [hgo]; cbv)
    refine ⟨(k + 1, ar .add .i64 i 1, set out (tn i) [.int .i64 x]), ⟨by simp only; omega, ?_, hs⟩, by simp only; omega, rfl⟩
    simp only [F.add, hi, IntKind.wrap_i64, I]; omega
  · rename_i hlt
    simp only [F.lss, hlen, decide_eq_false_iff_not, hi] at hlt
    have hkl : k = l.length := by simp only [I] at hlt; omega
    subst hkl
    rw [hml] at ho
    cbv
    exact ⟨by rw [hr, ho], trivial⟩

theorem c_toBinding {a0 : ByteArray} {a1 : Int} {a2 : ByteArray} {a3 : List Expr} {xa3 za3 : List (List T)} (hxa3 : rows false a3 = xa3) (hza3 : rows true a3 = za3) (hb : G.tot (⟨a0, ⟨a1, a2, a3⟩⟩ : Binding) ≤ 2 ^ 38) :
    Returns E 172 [.agg [.t (.str a0), .t (.int .i64 a1), .t (.str a2), .t (.sl false 3 xa3)]] [] (.agg [.t (.str a0), .t (.int .i64 a1), .t (.str a2), .t (.sl true 3 za3)]) [] := by
  refine fn_walk tb [0, 1, 2, 3] (fn := Try.f172) hmix htb Try.func172 rfl (by kernel_rfl) (by kernel_rfl) (Nat.le_of_ble_eq_true (by kernel_rfl)) rfl ?_
  intro ar cm sc bc nt ng ln sz tn idx get set vw rep nf R r hπ hR hr
  have F := PF.of hπ
  have htot := Binding.tot (⟨a0, ⟨a1, a2, a3⟩⟩ : Binding)
  simp only at htot
  cbv
  refine ⟨_, (hR ▸ c_toExpr hxa3 hza3 (by omega) : R 57 _ _ _ _), ?_⟩
  cbv
  exact ⟨hr.symm, trivial⟩

theorem c_toBindingS {l : List Binding} {xs zs : List (List T)} (hx : rows false l = xs) (hz : rows true l = zs) (hb : totL l ≤ 2 ^ 38) :
    Returns E 142 [.c (.t (.sl false 4 xs))] [] (.c (.t (.sl true 4 zs))) [] := by
  refine fn_walk tb [0, 2, 3, 4, 11] (fn := Try.f142) hmix htb Try.func142 rfl (by kernel_rfl) (by kernel_rfl) (Nat.le_of_ble_eq_true (by kernel_rfl)) rfl ?_
  intro ar cm sc bc nt ng ln sz tn idx get set vw rep nf R r hπ hR hr
  have F := PF.of hπ
  have hlen : ln xs = I l.length := by rw [F.ln, ← hx, rows_length]
  have hl : l.length ≤ 2 ^ 38 := Nat.le_trans (len_tot l) hb
  have hget : ∀ (k : Nat) (i : Int), i = I k → (hk : k < l.length) → idx xs i = some (G.cells false l[k]) := fun k i hi hk => by rw [F.idx, ← hx, rows_get, hi, I]; simp [hk]
  have hrp : rep (ln xs) (ln xs) [.str ⟨⟨[]⟩⟩, .int .i64 0, .str ⟨⟨[]⟩⟩, .nil] = some (mid l 0 [.str ⟨⟨[]⟩⟩, .int .i64 0, .str ⟨⟨[]⟩⟩, .nil]) := by
    rw [F.rep, if_pos ⟨by rw [hlen, I]; omega, rfl, by rw [hlen, I]; omega⟩, mid_zero, hlen, I]; simp
  have hmg : ∀ (k : Nat) (i : Int) (out : List (List T)), i = I k → out = mid l k [.str ⟨⟨[]⟩⟩, .int .i64 0, .str ⟨⟨[]⟩⟩, .nil] → k < l.length → get out (tn i) = some [.str ⟨⟨[]⟩⟩, .int .i64 0, .str ⟨⟨[]⟩⟩, .nil] := fun k i out hi ho hk => by
    rw [F.get, F.tn, hi, ho, I]; exact mid_get l _ k hk
  have hms : ∀ (k : Nat) (i : Int) (out : List (List T)), i = I k → out = mid l k [.str ⟨⟨[]⟩⟩, .int .i64 0, .str ⟨⟨[]⟩⟩, .nil] → (hk : k < l.length) → set out (tn i) (G.cells true l[k]) = mid l (k + 1) [.str ⟨⟨[]⟩⟩, .int .i64 0, .str ⟨⟨[]⟩⟩, .nil] := fun k i out hi ho hk => by
    rw [F.set, F.tn, hi, ho, I]; exact mid_set l _ k hk
  have hml : mid l l.length [.str ⟨⟨[]⟩⟩, .int .i64 0, .str ⟨⟨[]⟩⟩, .nil] = zs := by rw [mid_all, hz]
  generalize hm0 : mid l 0 [.str ⟨⟨[]⟩⟩, .int .i64 0, .str ⟨⟨[]⟩⟩, .nil] = m0 at hrp
  cbv
  rw [hrp]
  cbv
  refine aloop_inv [0, 2, 3, 4] [] (fun (a : Nat × Int × List (List T)) => ⟨[(0, .c (.t (.sl false 4 xs))), (2, .c (.t .nil)), (3, .c (.t (.sl true 4 a.2.2))), (4, .c (.t (.int .i64 a.2.1)))], [], [], [], [], []⟩)
    (fun a => a.1 ≤ l.length ∧ a.2.1 = I a.1 ∧ a.2.2 = mid l a.1 [.str ⟨⟨[]⟩⟩, .int .i64 0, .str ⟨⟨[]⟩⟩, .nil]) (fun a => l.length - a.1) (0, 0, m0) ⟨by simp, rfl, hm0.symm⟩ rfl ?_
  rintro ⟨k, i, out⟩ ⟨hk, hi, ho⟩
  simp only at hk hi ho
  cbv
  split
  · rename_i hlt
    simp only [F.lss, hlen, decide_eq_true_eq, hi] at hlt
    have hkl : k < l.length := by simp only [I] at hlt; omega
    have hg := hget k i hi hkl
    have hgo := hmg k i out hi ho hkl
    have hs := hms k i out hi ho hkl
    have hgi : idx out i = some [.str ⟨⟨[]⟩⟩, .int .i64 0, .str ⟨⟨[]⟩⟩, .nil] := by rw [F.idx, if_pos (by rw [hi, I]; omega)]; rw [F.get, F.tn] at hgo; exact hgo
    have hfx : G.tot l[k] ≤ 2 ^ 38 := Nat.le_trans (tot_mem (List.getElem_mem hkl)) hb
    generalize l[k] = x at hg hs hfx
    obtain ⟨x0, ⟨x1, x2, x3⟩⟩ := x
    simp only [Binding.cells] at hg hs
    generalize hxx3 : rows false x3 = yx3 at hg
    generalize hzx3 : rows true x3 = zx3 at hs
    cbv
    rw [hg]
    cbv
    refine ⟨_, (hR ▸ c_toBinding hxx3 hzx3 hfx : R 172 _ _ _ _), ?_⟩
    cbv
    rw [hgi]
    cbv
    repeat (rw [hgo]; cbv)
    refine ⟨(k + 1, ar .add .i64 i 1, set out (tn i) [.str x0, .int .i64 x1, .str x2, .sl true 3 zx3]), ⟨by simp only; omega, ?_, hs⟩, by simp only; omega, rfl⟩
    simp only [F.add, hi, IntKind.wrap_i64, I]; omega
  · rename_i hlt
    simp only [F.lss, hlen, decide_eq_false_iff_not, hi] at hlt
    have hkl : k = l.length := by simp only [I] at hlt; omega
    subst hkl
    rw [hml] at ho
    cbv
    exact ⟨by rw [hr, ho], trivial⟩

theorem c_toNode {a0 : Int} {a1 : Int} {a2 : ByteArray} {a3 : List Expr} {a4 : Int} {a5 : List Int} {a6 : ByteArray} {a7 : ByteArray} {a8 : List ByteArray} {a9 : List Binding} {a10 : Int} {xa3 za3 : List (List T)} (hxa3 : rows false a3 = xa3) (hza3 : rows true a3 = za3) {xa5 za5 : List (List T)} (hxa5 : rows false a5 = xa5) (hza5 : rows true a5 = za5) {xa8 za8 : List (List T)} (hxa8 : rows false a8 = xa8) (hza8 : rows true a8 = za8) {xa9 za9 : List (List T)} (hxa9 : rows false a9 = xa9) (hza9 : rows true a9 = za9) (hb : G.tot (⟨a0, ⟨a1, a2, a3⟩, a4, a5, a6, a7, a8, a9, a10⟩ : Node) ≤ 2 ^ 38) :
    Returns E 120 [.agg [.t (.int .i64 a0), .t (.int .i64 a1), .t (.str a2), .t (.sl false 3 xa3), .t (.int .i64 a4), .t (.sl false 1 xa5), .t (.str a6), .t (.str a7), .t (.sl false 1 xa8), .t (.sl false 4 xa9), .t (.int .i64 a10)]] [] (.agg [.t (.int .i64 a0), .t (.int .i64 a1), .t (.str a2), .t (.sl true 3 za3), .t (.int .i64 a4), .t (.sl true 1 za5), .t (.str a6), .t (.str a7), .t (.sl true 1 za8), .t (.sl true 4 za9), .t (.int .i64 a10)]) [] := by
  refine fn_walk tb [0, 1, 2, 3] (fn := Try.f120) hmix htb Try.func120 rfl (by kernel_rfl) (by kernel_rfl) (Nat.le_of_ble_eq_true (by kernel_rfl)) rfl ?_
  intro ar cm sc bc nt ng ln sz tn idx get set vw rep nf R r hπ hR hr
  have F := PF.of hπ
  have htot := Node.tot (⟨a0, ⟨a1, a2, a3⟩, a4, a5, a6, a7, a8, a9, a10⟩ : Node)
  simp only at htot
  cbv
  refine ⟨_, (hR ▸ c_toExpr hxa3 hza3 (by omega) : R 57 _ _ _ _), ?_⟩
  cbv
  refine ⟨_, (hR ▸ c_toIntS hxa5 hza5 (by omega) : R 141 _ _ _ _), ?_⟩
  cbv
  refine ⟨_, (hR ▸ c_toStringS hxa8 hza8 (by omega) : R 111 _ _ _ _), ?_⟩
  cbv
  refine ⟨_, (hR ▸ c_toBindingS hxa9 hza9 (by omega) : R 142 _ _ _ _), ?_⟩
  cbv
  exact ⟨hr.symm, trivial⟩

theorem c_toNodeS {l : List Node} {xs zs : List (List T)} (hx : rows false l = xs) (hz : rows true l = zs) (hb : totL l ≤ 2 ^ 38) :
    Returns E 94 [.c (.t (.sl false 11 xs))] [] (.c (.t (.sl true 11 zs))) [] := by
  refine fn_walk tb [0, 2, 3, 4, 11] (fn := Try.f94) hmix htb Try.func94 rfl (by kernel_rfl) (by kernel_rfl) (Nat.le_of_ble_eq_true (by kernel_rfl)) rfl ?_
  intro ar cm sc bc nt ng ln sz tn idx get set vw rep nf R r hπ hR hr
  have F := PF.of hπ
  have hlen : ln xs = I l.length := by rw [F.ln, ← hx, rows_length]
  have hl : l.length ≤ 2 ^ 38 := Nat.le_trans (len_tot l) hb
  have hget : ∀ (k : Nat) (i : Int), i = I k → (hk : k < l.length) → idx xs i = some (G.cells false l[k]) := fun k i hi hk => by rw [F.idx, ← hx, rows_get, hi, I]; simp [hk]
  have hrp : rep (ln xs) (ln xs) [.int .i64 0, .int .i64 0, .str ⟨⟨[]⟩⟩, .nil, .int .i64 0, .nil, .str ⟨⟨[]⟩⟩, .str ⟨⟨[]⟩⟩, .nil, .nil, .int .i64 0] = some (mid l 0 [.int .i64 0, .int .i64 0, .str ⟨⟨[]⟩⟩, .nil, .int .i64 0, .nil, .str ⟨⟨[]⟩⟩, .str ⟨⟨[]⟩⟩, .nil, .nil, .int .i64 0]) := by
    rw [F.rep, if_pos ⟨by rw [hlen, I]; omega, rfl, by rw [hlen, I]; omega⟩, mid_zero, hlen, I]; simp
  have hmg : ∀ (k : Nat) (i : Int) (out : List (List T)), i = I k → out = mid l k [.int .i64 0, .int .i64 0, .str ⟨⟨[]⟩⟩, .nil, .int .i64 0, .nil, .str ⟨⟨[]⟩⟩, .str ⟨⟨[]⟩⟩, .nil, .nil, .int .i64 0] → k < l.length → get out (tn i) = some [.int .i64 0, .int .i64 0, .str ⟨⟨[]⟩⟩, .nil, .int .i64 0, .nil, .str ⟨⟨[]⟩⟩, .str ⟨⟨[]⟩⟩, .nil, .nil, .int .i64 0] := fun k i out hi ho hk => by
    rw [F.get, F.tn, hi, ho, I]; exact mid_get l _ k hk
  have hms : ∀ (k : Nat) (i : Int) (out : List (List T)), i = I k → out = mid l k [.int .i64 0, .int .i64 0, .str ⟨⟨[]⟩⟩, .nil, .int .i64 0, .nil, .str ⟨⟨[]⟩⟩, .str ⟨⟨[]⟩⟩, .nil, .nil, .int .i64 0] → (hk : k < l.length) → set out (tn i) (G.cells true l[k]) = mid l (k + 1) [.int .i64 0, .int .i64 0, .str ⟨⟨[]⟩⟩, .nil, .int .i64 0, .nil, .str ⟨⟨[]⟩⟩, .str ⟨⟨[]⟩⟩, .nil, .nil, .int .i64 0] := fun k i out hi ho hk => by
    rw [F.set, F.tn, hi, ho, I]; exact mid_set l _ k hk
  have hml : mid l l.length [.int .i64 0, .int .i64 0, .str ⟨⟨[]⟩⟩, .nil, .int .i64 0, .nil, .str ⟨⟨[]⟩⟩, .str ⟨⟨[]⟩⟩, .nil, .nil, .int .i64 0] = zs := by rw [mid_all, hz]
  generalize hm0 : mid l 0 [.int .i64 0, .int .i64 0, .str ⟨⟨[]⟩⟩, .nil, .int .i64 0, .nil, .str ⟨⟨[]⟩⟩, .str ⟨⟨[]⟩⟩, .nil, .nil, .int .i64 0] = m0 at hrp
  cbv
  rw [hrp]
  cbv
  refine aloop_inv [0, 2, 3, 4] [] (fun (a : Nat × Int × List (List T)) => ⟨[(0, .c (.t (.sl false 11 xs))), (2, .c (.t .nil)), (3, .c (.t (.sl true 11 a.2.2))), (4, .c (.t (.int .i64 a.2.1)))], [], [], [], [], []⟩)
    (fun a => a.1 ≤ l.length ∧ a.2.1 = I a.1 ∧ a.2.2 = mid l a.1 [.int .i64 0, .int .i64 0, .str ⟨⟨[]⟩⟩, .nil, .int .i64 0, .nil, .str ⟨⟨[]⟩⟩, .str ⟨⟨[]⟩⟩, .nil, .nil, .int .i64 0]) (fun a => l.length - a.1) (0, 0, m0) ⟨by simp, rfl, hm0.symm⟩ rfl ?_
  rintro ⟨k, i, out⟩ ⟨hk, hi, ho⟩
  simp only at hk hi ho
  cbv
  split
  · rename_i hlt
    simp only [F.lss, hlen, decide_eq_true_eq, hi] at hlt
    have hkl : k < l.length := by simp only [I] at hlt; omega
    have hg := hget k i hi hkl
    have hgo := hmg k i out hi ho hkl
    have hs := hms k i out hi ho hkl
    have hgi : idx out i = some [.int .i64 0, .int .i64 0, .str ⟨⟨[]⟩⟩, .nil, .int .i64 0, .nil, .str ⟨⟨[]⟩⟩, .str ⟨⟨[]⟩⟩, .nil, .nil, .int .i64 0] := by rw [F.idx, if_pos (by rw [hi, I]; omega)]; rw [F.get, F.tn] at hgo; exact hgo
    have hfx : G.tot l[k] ≤ 2 ^ 38 := Nat.le_trans (tot_mem (List.getElem_mem hkl)) hb
    generalize l[k] = x at hg hs hfx
    obtain ⟨x0, ⟨x1, x2, x3⟩, x4, x5, x6, x7, x8, x9, x10⟩ := x
    simp only [Node.cells] at hg hs
    generalize hxx3 : rows false x3 = yx3 at hg
    generalize hzx3 : rows true x3 = zx3 at hs
    generalize hxx5 : rows false x5 = yx5 at hg
    generalize hzx5 : rows true x5 = zx5 at hs
    generalize hxx8 : rows false x8 = yx8 at hg
    generalize hzx8 : rows true x8 = zx8 at hs
    generalize hxx9 : rows false x9 = yx9 at hg
    generalize hzx9 : rows true x9 = zx9 at hs
    cbv
    rw [hg]
    cbv
    refine ⟨_, (hR ▸ c_toNode hxx3 hzx3 hxx5 hzx5 hxx8 hzx8 hxx9 hzx9 hfx : R 120 _ _ _ _), ?_⟩
    cbv
    rw [hgi]
    cbv
    repeat (rw [hgo]; cbv)
    refine ⟨(k + 1, ar .add .i64 i 1, set out (tn i) [.int .i64 x0, .int .i64 x1, .str x2, .sl true 3 zx3, .int .i64 x4, .sl true 1 zx5, .str x6, .str x7, .sl true 1 zx8, .sl true 4 zx9, .int .i64 x10]), ⟨by simp only; omega, ?_, hs⟩, by simp only; omega, rfl⟩
    simp only [F.add, hi, IntKind.wrap_i64, I]; omega
  · rename_i hlt
    simp only [F.lss, hlen, decide_eq_false_iff_not, hi] at hlt
    have hkl : k = l.length := by simp only [I] at hlt; omega
    subst hkl
    rw [hml] at ho
    cbv
    exact ⟨by rw [hr, ho], trivial⟩

theorem c_toTree {a0 : List Node} {xa0 za0 : List (List T)} (hxa0 : rows false a0 = xa0) (hza0 : rows true a0 = za0) (hb : G.tot (⟨a0⟩ : Tree) ≤ 2 ^ 38) :
    Returns E 58 [.agg [.t (.sl false 11 xa0)]] [] (.agg [.t (.sl true 11 za0)]) [] := by
  refine fn_walk tb [0, 1, 2, 3] (fn := Try.f58) hmix htb Try.func58 rfl (by kernel_rfl) (by kernel_rfl) (Nat.le_of_ble_eq_true (by kernel_rfl)) rfl ?_
  intro ar cm sc bc nt ng ln sz tn idx get set vw rep nf R r hπ hR hr
  have F := PF.of hπ
  have htot := Tree.tot (⟨a0⟩ : Tree)
  simp only at htot
  cbv
  refine ⟨_, (hR ▸ c_toNodeS hxa0 hza0 (by omega) : R 94 _ _ _ _), ?_⟩
  cbv
  exact ⟨hr.symm, trivial⟩

theorem c_toSession {a0 : ByteArray} {a1 : Int} {a2 : ByteArray} {a3 : List Expr} {a4 : List Node} {a5 : List Rule} {a6 : Int} {a7 : ByteArray} {a8 : List Expr} {xa3 za3 : List (List T)} (hxa3 : rows false a3 = xa3) (hza3 : rows true a3 = za3) {xa4 za4 : List (List T)} (hxa4 : rows false a4 = xa4) (hza4 : rows true a4 = za4) {xa5 za5 : List (List T)} (hxa5 : rows false a5 = xa5) (hza5 : rows true a5 = za5) {xa8 za8 : List (List T)} (hxa8 : rows false a8 = xa8) (hza8 : rows true a8 = za8) (hb : G.tot (⟨a0, ⟨a1, a2, a3⟩, ⟨a4⟩, ⟨⟨a5⟩, ⟨a6, a7, a8⟩⟩⟩ : Session) ≤ 2 ^ 38) :
    Returns E 23 [.agg [.t (.str a0), .t (.int .i64 a1), .t (.str a2), .t (.sl false 3 xa3), .t (.sl false 11 xa4), .t (.sl false 7 xa5), .t (.int .i64 a6), .t (.str a7), .t (.sl false 3 xa8)]] [] (.agg [.t (.str a0), .t (.int .i64 a1), .t (.str a2), .t (.sl true 3 za3), .t (.sl true 11 za4), .t (.sl true 7 za5), .t (.int .i64 a6), .t (.str a7), .t (.sl true 3 za8)]) [] := by
  refine fn_walk tb [0, 1, 2, 3] (fn := Try.f23) hmix htb Try.func23 rfl (by kernel_rfl) (by kernel_rfl) (Nat.le_of_ble_eq_true (by kernel_rfl)) rfl ?_
  intro ar cm sc bc nt ng ln sz tn idx get set vw rep nf R r hπ hR hr
  have F := PF.of hπ
  have htot := Session.tot (⟨a0, ⟨a1, a2, a3⟩, ⟨a4⟩, ⟨⟨a5⟩, ⟨a6, a7, a8⟩⟩⟩ : Session)
  simp only at htot
  cbv
  refine ⟨_, (hR ▸ c_toExpr hxa3 hza3 (by omega) : R 57 _ _ _ _), ?_⟩
  cbv
  refine ⟨_, (hR ▸ c_toTree hxa4 hza4 (by omega) : R 58 _ _ _ _), ?_⟩
  cbv
  refine ⟨_, (hR ▸ c_toResidual hxa5 hza5 hxa8 hza8 (by omega) : R 59 _ _ _ _), ?_⟩
  cbv
  exact ⟨hr.symm, trivial⟩

theorem c_eqIntS {l m : List Int} {xs ys : List (List T)} (hx : rows false l = xs) (hy : rows false m = ys) (hf : finL l) :
    Returns E 145 [.c (.t (.sl false 1 xs)), .c (.t (.sl false 1 ys))] [] (.c (.t (.bool (same l m)))) [] := by
  refine fn_walk tb [0, 1, 4, 5, 10, 14, 25] (fn := Try.f145) hmix htb Try.func145 rfl (by kernel_rfl) (by kernel_rfl) (Nat.le_of_ble_eq_true (by kernel_rfl)) rfl ?_
  intro ar cm sc bc nt ng ln sz tn idx get set vw rep nf R r hπ hR hr
  have F := PF.of hπ
  have hlen : ln xs = I l.length := by rw [F.ln, ← hx, rows_length]
  have hlen' : ln ys = I m.length := by rw [F.ln, ← hy, rows_length]
  have hl : l.length ≤ 9223372036854775807 := hf.1
  have hget : ∀ (k : Nat) (i : Int), i = I k → (hk : k < l.length) → idx xs i = some (G.cells false l[k]) := fun k i hi hk => by rw [F.idx, ← hx, rows_get, hi, I]; simp [hk]
  have hget' : ∀ (k : Nat) (i : Int), i = I k → (hk : k < m.length) → idx ys i = some (G.cells false m[k]) := fun k i hi hk => by rw [F.idx, ← hy, rows_get, hi, I]; simp [hk]
  cbv
  split
  · rename_i h
    simp only [F.neq, hlen, hlen', decide_eq_true_eq] at h
    cbv
    exact ⟨by rw [hr, same_false.2 fun e => h (by rw [e])], trivial⟩
  · rename_i h
    simp only [F.neq, hlen, hlen', decide_eq_false_iff_not, Decidable.not_not] at h
    have hlm : l.length = m.length := by simp only [I] at h; omega
    cbv
    refine aloop_inv [0, 1, 4, 5] [] (fun (a : Nat × Int) => ⟨[(0, .c (.t (.sl false 1 xs))), (1, .c (.t (.sl false 1 ys))), (4, .c (.t (.bool false))), (5, .c (.t (.int .i64 a.2)))], [], [], [], [], []⟩)
      (fun a => a.1 ≤ l.length ∧ a.2 = I a.1 ∧ l.take a.1 = m.take a.1) (fun a => l.length - a.1) (0, 0) ⟨by simp, rfl, rfl⟩ rfl ?_
    rintro ⟨k, i⟩ ⟨hk, hi, ht⟩
    simp only at hk hi ht
    cbv
    split
    · rename_i hlt
      simp only [F.lss, hlen, decide_eq_true_eq, hi] at hlt
      have hkl : k < l.length := by simp only [I] at hlt; omega
      have hkm : k < m.length := by omega
      have hg := hget k i hi hkl
      have hg' := hget' k i hi hkm
      have hst : l[k] = m[k] → l.take (k + 1) = m.take (k + 1) := take_eq_succ ht hkl hkm
      have heq : l = m → l[k] = m[k] := fun e => by subst e; rfl
      have hfx := hf.2 l[k] (List.getElem_mem hkl)
      generalize l[k] = x at hg hst heq hfx
      generalize m[k] = y at hg' hst heq
      change idx xs i = some [.int .i64 x] at hg
      change idx ys i = some [.int .i64 y] at hg'
      cbv
      rw [hg]
      cbv
      rw [hg']
      cbv
      split
      · rename_i h
        simp only [F.neq, decide_eq_true_eq] at h
        cbv
        exact ⟨by rw [hr, same_false.2 fun e => h (heq e)], trivial⟩
      · rename_i h
        simp only [F.neq, decide_eq_false_iff_not, Decidable.not_not] at h
        cbv
        refine ⟨(k + 1, ar .add .i64 i 1), ⟨by simp only; omega, ?_, hst h⟩, by simp only; omega, rfl⟩
        simp only [F.add, hi, IntKind.wrap_i64, I]; omega
    · rename_i hlt
      simp only [F.lss, hlen, decide_eq_false_iff_not, hi] at hlt
      have hkl : k = l.length := by simp only [I] at hlt; omega
      subst hkl
      rw [List.take_length, hlm, List.take_length] at ht
      cbv
      exact ⟨by rw [hr, same_iff.2 ht], trivial⟩

theorem c_eqBinding {a0 : ByteArray} {a1 : Int} {a2 : ByteArray} {a3 : List Expr} {b0 : ByteArray} {b1 : Int} {b2 : ByteArray} {b3 : List Expr} {xa3 : List (List T)} (hxa3 : rows false a3 = xa3) {xb3 : List (List T)} (hxb3 : rows false b3 = xb3) (hf : G.fin (⟨a0, ⟨a1, a2, a3⟩⟩ : Binding)) :
    Returns E 173 [.agg [.t (.str a0), .t (.int .i64 a1), .t (.str a2), .t (.sl false 3 xa3)], .agg [.t (.str b0), .t (.int .i64 b1), .t (.str b2), .t (.sl false 3 xb3)]] [] (.c (.t (.bool (same (⟨a0, ⟨a1, a2, a3⟩⟩ : Binding) (⟨b0, ⟨b1, b2, b3⟩⟩ : Binding))))) [] := by
  refine fn_walk tb [0, 1, 2, 3, 4, 9, 15] (fn := Try.f173) hmix htb Try.func173 rfl (by kernel_rfl) (by kernel_rfl) (Nat.le_of_ble_eq_true (by kernel_rfl)) rfl ?_
  intro ar cm sc bc nt ng ln sz tn idx get set vw rep nf R r hπ hR hr
  have F := PF.of hπ
  have hfx := hf
  change a0.size ≤ BIG ∧ G.fin (⟨a1, a2, a3⟩ : Expr) at hfx
  obtain ⟨hf0, hf1⟩ := hfx
  have hinj : (⟨a0, ⟨a1, a2, a3⟩⟩ : Binding) = (⟨b0, ⟨b1, b2, b3⟩⟩ : Binding) → a0 = b0 ∧ (⟨a1, a2, a3⟩ : Expr) = ⟨b1, b2, b3⟩ := fun e => by cases e; simp
  have hmk : a0 = b0 ∧ (⟨a1, a2, a3⟩ : Expr) = ⟨b1, b2, b3⟩ → (⟨a0, ⟨a1, a2, a3⟩⟩ : Binding) = (⟨b0, ⟨b1, b2, b3⟩⟩ : Binding) := fun e => by obtain ⟨e0, e1⟩ := e; cases e0; cases e1; rfl
  generalize (⟨a0, ⟨a1, a2, a3⟩⟩ : Binding) = A at hinj hmk hr hf
  generalize (⟨b0, ⟨b1, b2, b3⟩⟩ : Binding) = B at hinj hmk hr
  cbv
  split
  · rename_i h
    simp only [F.sneq, decide_eq_true_eq] at h
    cbv
    exact ⟨by rw [hr, same_false.2 fun e => h (hinj e).1], trivial⟩
  · rename_i h0
    simp only [F.sneq, decide_eq_false_iff_not, Decidable.not_not] at h0
    cbv
    have hc := c_eqExpr (b0 := b1) (b1 := b2) (b2 := b3) hxa3 hxb3 hf1
    generalize hv1 : same _ _ = v1 at hc
    refine ⟨_, (hR ▸ hc : R 63 _ _ _ _), ?_⟩
    cbv
    split
    · rename_i h
      simp only [F.nt, Bool.not_eq_true'] at h
      subst h
      cbv
      exact ⟨by rw [hr, same_false.2 fun e => same_false.1 hv1 (hinj e).2], trivial⟩
    · rename_i h
      simp only [F.nt, Bool.not_eq_false'] at h
      subst h
      cbv
      exact ⟨by rw [hr, same_iff.2 (hmk ⟨h0, same_iff.1 hv1⟩)], trivial⟩

theorem c_eqBindingS {l m : List Binding} {xs ys : List (List T)} (hx : rows false l = xs) (hy : rows false m = ys) (hf : finL l) :
    Returns E 146 [.c (.t (.sl false 4 xs)), .c (.t (.sl false 4 ys))] [] (.c (.t (.bool (same l m)))) [] := by
  refine fn_walk tb [0, 1, 4, 5, 10, 14, 26] (fn := Try.f146) hmix htb Try.func146 rfl (by kernel_rfl) (by kernel_rfl) (Nat.le_of_ble_eq_true (by kernel_rfl)) rfl ?_
  intro ar cm sc bc nt ng ln sz tn idx get set vw rep nf R r hπ hR hr
  have F := PF.of hπ
  have hlen : ln xs = I l.length := by rw [F.ln, ← hx, rows_length]
  have hlen' : ln ys = I m.length := by rw [F.ln, ← hy, rows_length]
  have hl : l.length ≤ 9223372036854775807 := hf.1
  have hget : ∀ (k : Nat) (i : Int), i = I k → (hk : k < l.length) → idx xs i = some (G.cells false l[k]) := fun k i hi hk => by rw [F.idx, ← hx, rows_get, hi, I]; simp [hk]
  have hget' : ∀ (k : Nat) (i : Int), i = I k → (hk : k < m.length) → idx ys i = some (G.cells false m[k]) := fun k i hi hk => by rw [F.idx, ← hy, rows_get, hi, I]; simp [hk]
  cbv
  split
  · rename_i h
    simp only [F.neq, hlen, hlen', decide_eq_true_eq] at h
    cbv
    exact ⟨by rw [hr, same_false.2 fun e => h (by rw [e])], trivial⟩
  · rename_i h
    simp only [F.neq, hlen, hlen', decide_eq_false_iff_not, Decidable.not_not] at h
    have hlm : l.length = m.length := by simp only [I] at h; omega
    cbv
    refine aloop_inv [0, 1, 4, 5] [] (fun (a : Nat × Int) => ⟨[(0, .c (.t (.sl false 4 xs))), (1, .c (.t (.sl false 4 ys))), (4, .c (.t (.bool false))), (5, .c (.t (.int .i64 a.2)))], [], [], [], [], []⟩)
      (fun a => a.1 ≤ l.length ∧ a.2 = I a.1 ∧ l.take a.1 = m.take a.1) (fun a => l.length - a.1) (0, 0) ⟨by simp, rfl, rfl⟩ rfl ?_
    rintro ⟨k, i⟩ ⟨hk, hi, ht⟩
    simp only at hk hi ht
    cbv
    split
    · rename_i hlt
      simp only [F.lss, hlen, decide_eq_true_eq, hi] at hlt
      have hkl : k < l.length := by simp only [I] at hlt; omega
      have hkm : k < m.length := by omega
      have hg := hget k i hi hkl
      have hg' := hget' k i hi hkm
      have hst : l[k] = m[k] → l.take (k + 1) = m.take (k + 1) := take_eq_succ ht hkl hkm
      have heq : l = m → l[k] = m[k] := fun e => by subst e; rfl
      have hfx := hf.2 l[k] (List.getElem_mem hkl)
      generalize l[k] = x at hg hst heq hfx
      generalize m[k] = y at hg' hst heq
      obtain ⟨x0, ⟨x1, x2, x3⟩⟩ := x
      obtain ⟨w0, ⟨w1, w2, w3⟩⟩ := y
      simp only [Binding.cells] at hg hg'
      generalize hxx3 : rows false x3 = yx3 at hg
      generalize hxw3 : rows false w3 = yw3 at hg'
      cbv
      rw [hg]
      cbv
      rw [hg']
      cbv
      have hc := c_eqBinding (b0 := w0) (b1 := w1) (b2 := w2) (b3 := w3) hxx3 hxw3 hfx
      generalize hv : same _ _ = v at hc
      refine ⟨_, (hR ▸ hc : R 173 _ _ _ _), ?_⟩
      cbv
      split
      · rename_i h
        simp only [F.nt, Bool.not_eq_true'] at h
        subst h
        cbv
        exact ⟨by rw [hr, same_false.2 fun e => same_false.1 hv (heq e)], trivial⟩
      · rename_i h
        simp only [F.nt, Bool.not_eq_false'] at h
        subst h
        cbv
        refine ⟨(k + 1, ar .add .i64 i 1), ⟨by simp only; omega, ?_, hst (same_iff.1 hv)⟩, by simp only; omega, rfl⟩
        simp only [F.add, hi, IntKind.wrap_i64, I]; omega
    · rename_i hlt
      simp only [F.lss, hlen, decide_eq_false_iff_not, hi] at hlt
      have hkl : k = l.length := by simp only [I] at hlt; omega
      subst hkl
      rw [List.take_length, hlm, List.take_length] at ht
      cbv
      exact ⟨by rw [hr, same_iff.2 ht], trivial⟩

theorem c_eqNode {a0 : Int} {a1 : Int} {a2 : ByteArray} {a3 : List Expr} {a4 : Int} {a5 : List Int} {a6 : ByteArray} {a7 : ByteArray} {a8 : List ByteArray} {a9 : List Binding} {a10 : Int} {b0 : Int} {b1 : Int} {b2 : ByteArray} {b3 : List Expr} {b4 : Int} {b5 : List Int} {b6 : ByteArray} {b7 : ByteArray} {b8 : List ByteArray} {b9 : List Binding} {b10 : Int} {xa3 : List (List T)} (hxa3 : rows false a3 = xa3) {xa5 : List (List T)} (hxa5 : rows false a5 = xa5) {xa8 : List (List T)} (hxa8 : rows false a8 = xa8) {xa9 : List (List T)} (hxa9 : rows false a9 = xa9) {xb3 : List (List T)} (hxb3 : rows false b3 = xb3) {xb5 : List (List T)} (hxb5 : rows false b5 = xb5) {xb8 : List (List T)} (hxb8 : rows false b8 = xb8) {xb9 : List (List T)} (hxb9 : rows false b9 = xb9) (hf : G.fin (⟨a0, ⟨a1, a2, a3⟩, a4, a5, a6, a7, a8, a9, a10⟩ : Node)) :
    Returns E 122 [.agg [.t (.int .i64 a0), .t (.int .i64 a1), .t (.str a2), .t (.sl false 3 xa3), .t (.int .i64 a4), .t (.sl false 1 xa5), .t (.str a6), .t (.str a7), .t (.sl false 1 xa8), .t (.sl false 4 xa9), .t (.int .i64 a10)], .agg [.t (.int .i64 b0), .t (.int .i64 b1), .t (.str b2), .t (.sl false 3 xb3), .t (.int .i64 b4), .t (.sl false 1 xb5), .t (.str b6), .t (.str b7), .t (.sl false 1 xb8), .t (.sl false 4 xb9), .t (.int .i64 b10)]] [] (.c (.t (.bool (same (⟨a0, ⟨a1, a2, a3⟩, a4, a5, a6, a7, a8, a9, a10⟩ : Node) (⟨b0, ⟨b1, b2, b3⟩, b4, b5, b6, b7, b8, b9, b10⟩ : Node))))) [] := by
  refine fn_walk tb [0, 1, 2, 3, 4, 9, 15, 20, 26, 31, 36, 42, 48, 53] (fn := Try.f122) hmix htb Try.func122 rfl (by kernel_rfl) (by kernel_rfl) (Nat.le_of_ble_eq_true (by kernel_rfl)) rfl ?_
  intro ar cm sc bc nt ng ln sz tn idx get set vw rep nf R r hπ hR hr
  have F := PF.of hπ
  have hfx := hf
  change G.fin (⟨a1, a2, a3⟩ : Expr) ∧ finL a5 ∧ a6.size ≤ BIG ∧ a7.size ≤ BIG ∧ finL a8 ∧ finL a9 at hfx
  obtain ⟨hf1, hf3, hf4, hf5, hf6, hf7⟩ := hfx
  have hinj : (⟨a0, ⟨a1, a2, a3⟩, a4, a5, a6, a7, a8, a9, a10⟩ : Node) = (⟨b0, ⟨b1, b2, b3⟩, b4, b5, b6, b7, b8, b9, b10⟩ : Node) → a0 = b0 ∧ (⟨a1, a2, a3⟩ : Expr) = ⟨b1, b2, b3⟩ ∧ a4 = b4 ∧ a5 = b5 ∧ a6 = b6 ∧ a7 = b7 ∧ a8 = b8 ∧ a9 = b9 ∧ a10 = b10 := fun e => by cases e; simp
  have hmk : a0 = b0 ∧ (⟨a1, a2, a3⟩ : Expr) = ⟨b1, b2, b3⟩ ∧ a4 = b4 ∧ a5 = b5 ∧ a6 = b6 ∧ a7 = b7 ∧ a8 = b8 ∧ a9 = b9 ∧ a10 = b10 → (⟨a0, ⟨a1, a2, a3⟩, a4, a5, a6, a7, a8, a9, a10⟩ : Node) = (⟨b0, ⟨b1, b2, b3⟩, b4, b5, b6, b7, b8, b9, b10⟩ : Node) := fun e => by obtain ⟨e0, e1, e2, e3, e4, e5, e6, e7, e8⟩ := e; cases e0; cases e1; cases e2; cases e3; cases e4; cases e5; cases e6; cases e7; cases e8; rfl
  generalize (⟨a0, ⟨a1, a2, a3⟩, a4, a5, a6, a7, a8, a9, a10⟩ : Node) = A at hinj hmk hr hf
  generalize (⟨b0, ⟨b1, b2, b3⟩, b4, b5, b6, b7, b8, b9, b10⟩ : Node) = B at hinj hmk hr
  cbv
  split
  · rename_i h
    simp only [F.neq, decide_eq_true_eq] at h
    cbv
    exact ⟨by rw [hr, same_false.2 fun e => h (hinj e).1], trivial⟩
  · rename_i h0
    simp only [F.neq, decide_eq_false_iff_not, Decidable.not_not] at h0
    cbv
    have hc := c_eqExpr (b0 := b1) (b1 := b2) (b2 := b3) hxa3 hxb3 hf1
    generalize hv1 : same _ _ = v1 at hc
    refine ⟨_, (hR ▸ hc : R 63 _ _ _ _), ?_⟩
    cbv
    split
    · rename_i h
      simp only [F.nt, Bool.not_eq_true'] at h
      subst h
      cbv
      exact ⟨by rw [hr, same_false.2 fun e => same_false.1 hv1 (hinj e).2.1], trivial⟩
    · rename_i h
      simp only [F.nt, Bool.not_eq_false'] at h
      subst h
      cbv
      split
      · rename_i h
        simp only [F.neq, decide_eq_true_eq] at h
        cbv
        exact ⟨by rw [hr, same_false.2 fun e => h (hinj e).2.2.1], trivial⟩
      · rename_i h2
        simp only [F.neq, decide_eq_false_iff_not, Decidable.not_not] at h2
        cbv
        have hc := c_eqIntS hxa5 hxb5 hf3
        generalize hv3 : same _ _ = v3 at hc
        refine ⟨_, (hR ▸ hc : R 145 _ _ _ _), ?_⟩
        cbv
        split
        · rename_i h
          simp only [F.nt, Bool.not_eq_true'] at h
          subst h
          cbv
          exact ⟨by rw [hr, same_false.2 fun e => same_false.1 hv3 (hinj e).2.2.2.1], trivial⟩
        · rename_i h
          simp only [F.nt, Bool.not_eq_false'] at h
          subst h
          cbv
          split
          · rename_i h
            simp only [F.sneq, decide_eq_true_eq] at h
            cbv
            exact ⟨by rw [hr, same_false.2 fun e => h (hinj e).2.2.2.2.1], trivial⟩
          · rename_i h4
            simp only [F.sneq, decide_eq_false_iff_not, Decidable.not_not] at h4
            cbv
            split
            · rename_i h
              simp only [F.sneq, decide_eq_true_eq] at h
              cbv
              exact ⟨by rw [hr, same_false.2 fun e => h (hinj e).2.2.2.2.2.1], trivial⟩
            · rename_i h5
              simp only [F.sneq, decide_eq_false_iff_not, Decidable.not_not] at h5
              cbv
              have hc := c_eqStringS hxa8 hxb8 hf6
              generalize hv6 : same _ _ = v6 at hc
              refine ⟨_, (hR ▸ hc : R 112 _ _ _ _), ?_⟩
              cbv
              split
              · rename_i h
                simp only [F.nt, Bool.not_eq_true'] at h
                subst h
                cbv
                exact ⟨by rw [hr, same_false.2 fun e => same_false.1 hv6 (hinj e).2.2.2.2.2.2.1], trivial⟩
              · rename_i h
                simp only [F.nt, Bool.not_eq_false'] at h
                subst h
                cbv
                have hc := c_eqBindingS hxa9 hxb9 hf7
                generalize hv7 : same _ _ = v7 at hc
                refine ⟨_, (hR ▸ hc : R 146 _ _ _ _), ?_⟩
                cbv
                split
                · rename_i h
                  simp only [F.nt, Bool.not_eq_true'] at h
                  subst h
                  cbv
                  exact ⟨by rw [hr, same_false.2 fun e => same_false.1 hv7 (hinj e).2.2.2.2.2.2.2.1], trivial⟩
                · rename_i h
                  simp only [F.nt, Bool.not_eq_false'] at h
                  subst h
                  cbv
                  split
                  · rename_i h
                    simp only [F.neq, decide_eq_true_eq] at h
                    cbv
                    exact ⟨by rw [hr, same_false.2 fun e => h (hinj e).2.2.2.2.2.2.2.2], trivial⟩
                  · rename_i h8
                    simp only [F.neq, decide_eq_false_iff_not, Decidable.not_not] at h8
                    cbv
                    exact ⟨by rw [hr, same_iff.2 (hmk ⟨h0, same_iff.1 hv1, h2, same_iff.1 hv3, h4, h5, same_iff.1 hv6, same_iff.1 hv7, h8⟩)], trivial⟩

theorem c_eqNodeS {l m : List Node} {xs ys : List (List T)} (hx : rows false l = xs) (hy : rows false m = ys) (hf : finL l) :
    Returns E 99 [.c (.t (.sl false 11 xs)), .c (.t (.sl false 11 ys))] [] (.c (.t (.bool (same l m)))) [] := by
  refine fn_walk tb [0, 1, 4, 5, 10, 14, 26] (fn := Try.f99) hmix htb Try.func99 rfl (by kernel_rfl) (by kernel_rfl) (Nat.le_of_ble_eq_true (by kernel_rfl)) rfl ?_
  intro ar cm sc bc nt ng ln sz tn idx get set vw rep nf R r hπ hR hr
  have F := PF.of hπ
  have hlen : ln xs = I l.length := by rw [F.ln, ← hx, rows_length]
  have hlen' : ln ys = I m.length := by rw [F.ln, ← hy, rows_length]
  have hl : l.length ≤ 9223372036854775807 := hf.1
  have hget : ∀ (k : Nat) (i : Int), i = I k → (hk : k < l.length) → idx xs i = some (G.cells false l[k]) := fun k i hi hk => by rw [F.idx, ← hx, rows_get, hi, I]; simp [hk]
  have hget' : ∀ (k : Nat) (i : Int), i = I k → (hk : k < m.length) → idx ys i = some (G.cells false m[k]) := fun k i hi hk => by rw [F.idx, ← hy, rows_get, hi, I]; simp [hk]
  cbv
  split
  · rename_i h
    simp only [F.neq, hlen, hlen', decide_eq_true_eq] at h
    cbv
    exact ⟨by rw [hr, same_false.2 fun e => h (by rw [e])], trivial⟩
  · rename_i h
    simp only [F.neq, hlen, hlen', decide_eq_false_iff_not, Decidable.not_not] at h
    have hlm : l.length = m.length := by simp only [I] at h; omega
    cbv
    refine aloop_inv [0, 1, 4, 5] [] (fun (a : Nat × Int) => ⟨[(0, .c (.t (.sl false 11 xs))), (1, .c (.t (.sl false 11 ys))), (4, .c (.t (.bool false))), (5, .c (.t (.int .i64 a.2)))], [], [], [], [], []⟩)
      (fun a => a.1 ≤ l.length ∧ a.2 = I a.1 ∧ l.take a.1 = m.take a.1) (fun a => l.length - a.1) (0, 0) ⟨by simp, rfl, rfl⟩ rfl ?_
    rintro ⟨k, i⟩ ⟨hk, hi, ht⟩
    simp only at hk hi ht
    cbv
    split
    · rename_i hlt
      simp only [F.lss, hlen, decide_eq_true_eq, hi] at hlt
      have hkl : k < l.length := by simp only [I] at hlt; omega
      have hkm : k < m.length := by omega
      have hg := hget k i hi hkl
      have hg' := hget' k i hi hkm
      have hst : l[k] = m[k] → l.take (k + 1) = m.take (k + 1) := take_eq_succ ht hkl hkm
      have heq : l = m → l[k] = m[k] := fun e => by subst e; rfl
      have hfx := hf.2 l[k] (List.getElem_mem hkl)
      generalize l[k] = x at hg hst heq hfx
      generalize m[k] = y at hg' hst heq
      obtain ⟨x0, ⟨x1, x2, x3⟩, x4, x5, x6, x7, x8, x9, x10⟩ := x
      obtain ⟨w0, ⟨w1, w2, w3⟩, w4, w5, w6, w7, w8, w9, w10⟩ := y
      simp only [Node.cells] at hg hg'
      generalize hxx3 : rows false x3 = yx3 at hg
      generalize hxx5 : rows false x5 = yx5 at hg
      generalize hxx8 : rows false x8 = yx8 at hg
      generalize hxx9 : rows false x9 = yx9 at hg
      generalize hxw3 : rows false w3 = yw3 at hg'
      generalize hxw5 : rows false w5 = yw5 at hg'
      generalize hxw8 : rows false w8 = yw8 at hg'
      generalize hxw9 : rows false w9 = yw9 at hg'
      cbv
      rw [hg]
      cbv
      rw [hg']
      cbv
      have hc := c_eqNode (b0 := w0) (b1 := w1) (b2 := w2) (b3 := w3) (b4 := w4) (b5 := w5) (b6 := w6) (b7 := w7) (b8 := w8) (b9 := w9) (b10 := w10) hxx3 hxx5 hxx8 hxx9 hxw3 hxw5 hxw8 hxw9 hfx
      generalize hv : same _ _ = v at hc
      refine ⟨_, (hR ▸ hc : R 122 _ _ _ _), ?_⟩
      cbv
      split
      · rename_i h
        simp only [F.nt, Bool.not_eq_true'] at h
        subst h
        cbv
        exact ⟨by rw [hr, same_false.2 fun e => same_false.1 hv (heq e)], trivial⟩
      · rename_i h
        simp only [F.nt, Bool.not_eq_false'] at h
        subst h
        cbv
        refine ⟨(k + 1, ar .add .i64 i 1), ⟨by simp only; omega, ?_, hst (same_iff.1 hv)⟩, by simp only; omega, rfl⟩
        simp only [F.add, hi, IntKind.wrap_i64, I]; omega
    · rename_i hlt
      simp only [F.lss, hlen, decide_eq_false_iff_not, hi] at hlt
      have hkl : k = l.length := by simp only [I] at hlt; omega
      subst hkl
      rw [List.take_length, hlm, List.take_length] at ht
      cbv
      exact ⟨by rw [hr, same_iff.2 ht], trivial⟩

theorem c_eqTree {a0 : List Node} {b0 : List Node} {xa0 : List (List T)} (hxa0 : rows false a0 = xa0) {xb0 : List (List T)} (hxb0 : rows false b0 = xb0) (hf : G.fin (⟨a0⟩ : Tree)) :
    Returns E 64 [.agg [.t (.sl false 11 xa0)], .agg [.t (.sl false 11 xb0)]] [] (.c (.t (.bool (same (⟨a0⟩ : Tree) (⟨b0⟩ : Tree))))) [] := by
  refine fn_walk tb [0, 1, 2, 3, 4, 10] (fn := Try.f64) hmix htb Try.func64 rfl (by kernel_rfl) (by kernel_rfl) (Nat.le_of_ble_eq_true (by kernel_rfl)) rfl ?_
  intro ar cm sc bc nt ng ln sz tn idx get set vw rep nf R r hπ hR hr
  have F := PF.of hπ
  have hfx := hf
  change finL a0 at hfx
  have hf0 := hfx
  have hinj : (⟨a0⟩ : Tree) = (⟨b0⟩ : Tree) → a0 = b0 := fun e => by cases e; simp
  have hmk : a0 = b0 → (⟨a0⟩ : Tree) = (⟨b0⟩ : Tree) := fun e => by have e0 := e; cases e0; rfl
  generalize (⟨a0⟩ : Tree) = A at hinj hmk hr hf
  generalize (⟨b0⟩ : Tree) = B at hinj hmk hr
  cbv
  have hc := c_eqNodeS hxa0 hxb0 hf0
  generalize hv0 : same _ _ = v0 at hc
  refine ⟨_, (hR ▸ hc : R 99 _ _ _ _), ?_⟩
  cbv
  split
  · rename_i h
    simp only [F.nt, Bool.not_eq_true'] at h
    subst h
    cbv
    exact ⟨by rw [hr, same_false.2 fun e => same_false.1 hv0 (hinj e)], trivial⟩
  · rename_i h
    simp only [F.nt, Bool.not_eq_false'] at h
    subst h
    cbv
    exact ⟨by rw [hr, same_iff.2 (hmk (same_iff.1 hv0))], trivial⟩

theorem c_eqSession {a0 : ByteArray} {a1 : Int} {a2 : ByteArray} {a3 : List Expr} {a4 : List Node} {a5 : List Rule} {a6 : Int} {a7 : ByteArray} {a8 : List Expr} {b0 : ByteArray} {b1 : Int} {b2 : ByteArray} {b3 : List Expr} {b4 : List Node} {b5 : List Rule} {b6 : Int} {b7 : ByteArray} {b8 : List Expr} {xa3 : List (List T)} (hxa3 : rows false a3 = xa3) {xa4 : List (List T)} (hxa4 : rows false a4 = xa4) {xa5 : List (List T)} (hxa5 : rows false a5 = xa5) {xa8 : List (List T)} (hxa8 : rows false a8 = xa8) {xb3 : List (List T)} (hxb3 : rows false b3 = xb3) {xb4 : List (List T)} (hxb4 : rows false b4 = xb4) {xb5 : List (List T)} (hxb5 : rows false b5 = xb5) {xb8 : List (List T)} (hxb8 : rows false b8 = xb8) (hf : G.fin (⟨a0, ⟨a1, a2, a3⟩, ⟨a4⟩, ⟨⟨a5⟩, ⟨a6, a7, a8⟩⟩⟩ : Session)) :
    Returns E 25 [.agg [.t (.str a0), .t (.int .i64 a1), .t (.str a2), .t (.sl false 3 xa3), .t (.sl false 11 xa4), .t (.sl false 7 xa5), .t (.int .i64 a6), .t (.str a7), .t (.sl false 3 xa8)], .agg [.t (.str b0), .t (.int .i64 b1), .t (.str b2), .t (.sl false 3 xb3), .t (.sl false 11 xb4), .t (.sl false 7 xb5), .t (.int .i64 b6), .t (.str b7), .t (.sl false 3 xb8)]] [] (.c (.t (.bool (same (⟨a0, ⟨a1, a2, a3⟩, ⟨a4⟩, ⟨⟨a5⟩, ⟨a6, a7, a8⟩⟩⟩ : Session) (⟨b0, ⟨b1, b2, b3⟩, ⟨b4⟩, ⟨⟨b5⟩, ⟨b6, b7, b8⟩⟩⟩ : Session))))) [] := by
  refine fn_walk tb [0, 1, 2, 3, 4, 9, 15, 21, 27] (fn := Try.f25) hmix htb Try.func25 rfl (by kernel_rfl) (by kernel_rfl) (Nat.le_of_ble_eq_true (by kernel_rfl)) rfl ?_
  intro ar cm sc bc nt ng ln sz tn idx get set vw rep nf R r hπ hR hr
  have F := PF.of hπ
  have hfx := hf
  change a0.size ≤ BIG ∧ G.fin (⟨a1, a2, a3⟩ : Expr) ∧ G.fin (⟨a4⟩ : Tree) ∧ G.fin (⟨⟨a5⟩, ⟨a6, a7, a8⟩⟩ : Residual) at hfx
  obtain ⟨hf0, hf1, hf2, hf3⟩ := hfx
  have hinj : (⟨a0, ⟨a1, a2, a3⟩, ⟨a4⟩, ⟨⟨a5⟩, ⟨a6, a7, a8⟩⟩⟩ : Session) = (⟨b0, ⟨b1, b2, b3⟩, ⟨b4⟩, ⟨⟨b5⟩, ⟨b6, b7, b8⟩⟩⟩ : Session) → a0 = b0 ∧ (⟨a1, a2, a3⟩ : Expr) = ⟨b1, b2, b3⟩ ∧ (⟨a4⟩ : Tree) = ⟨b4⟩ ∧ (⟨⟨a5⟩, ⟨a6, a7, a8⟩⟩ : Residual) = ⟨⟨b5⟩, ⟨b6, b7, b8⟩⟩ := fun e => by cases e; simp
  have hmk : a0 = b0 ∧ (⟨a1, a2, a3⟩ : Expr) = ⟨b1, b2, b3⟩ ∧ (⟨a4⟩ : Tree) = ⟨b4⟩ ∧ (⟨⟨a5⟩, ⟨a6, a7, a8⟩⟩ : Residual) = ⟨⟨b5⟩, ⟨b6, b7, b8⟩⟩ → (⟨a0, ⟨a1, a2, a3⟩, ⟨a4⟩, ⟨⟨a5⟩, ⟨a6, a7, a8⟩⟩⟩ : Session) = (⟨b0, ⟨b1, b2, b3⟩, ⟨b4⟩, ⟨⟨b5⟩, ⟨b6, b7, b8⟩⟩⟩ : Session) := fun e => by obtain ⟨e0, e1, e2, e3⟩ := e; cases e0; cases e1; cases e2; cases e3; rfl
  generalize (⟨a0, ⟨a1, a2, a3⟩, ⟨a4⟩, ⟨⟨a5⟩, ⟨a6, a7, a8⟩⟩⟩ : Session) = A at hinj hmk hr hf
  generalize (⟨b0, ⟨b1, b2, b3⟩, ⟨b4⟩, ⟨⟨b5⟩, ⟨b6, b7, b8⟩⟩⟩ : Session) = B at hinj hmk hr
  cbv
  split
  · rename_i h
    simp only [F.sneq, decide_eq_true_eq] at h
    cbv
    exact ⟨by rw [hr, same_false.2 fun e => h (hinj e).1], trivial⟩
  · rename_i h0
    simp only [F.sneq, decide_eq_false_iff_not, Decidable.not_not] at h0
    cbv
    have hc := c_eqExpr (b0 := b1) (b1 := b2) (b2 := b3) hxa3 hxb3 hf1
    generalize hv1 : same _ _ = v1 at hc
    refine ⟨_, (hR ▸ hc : R 63 _ _ _ _), ?_⟩
    cbv
    split
    · rename_i h
      simp only [F.nt, Bool.not_eq_true'] at h
      subst h
      cbv
      exact ⟨by rw [hr, same_false.2 fun e => same_false.1 hv1 (hinj e).2.1], trivial⟩
    · rename_i h
      simp only [F.nt, Bool.not_eq_false'] at h
      subst h
      cbv
      have hc := c_eqTree (b0 := b4) hxa4 hxb4 hf2
      generalize hv2 : same _ _ = v2 at hc
      refine ⟨_, (hR ▸ hc : R 64 _ _ _ _), ?_⟩
      cbv
      split
      · rename_i h
        simp only [F.nt, Bool.not_eq_true'] at h
        subst h
        cbv
        exact ⟨by rw [hr, same_false.2 fun e => same_false.1 hv2 (hinj e).2.2.1], trivial⟩
      · rename_i h
        simp only [F.nt, Bool.not_eq_false'] at h
        subst h
        cbv
        have hc := c_eqResidual (b0 := b5) (b1 := b6) (b2 := b7) (b3 := b8) hxa5 hxa8 hxb5 hxb8 hf3
        generalize hv3 : same _ _ = v3 at hc
        refine ⟨_, (hR ▸ hc : R 45 _ _ _ _), ?_⟩
        cbv
        split
        · rename_i h
          simp only [F.nt, Bool.not_eq_true'] at h
          subst h
          cbv
          exact ⟨by rw [hr, same_false.2 fun e => same_false.1 hv3 (hinj e).2.2.2], trivial⟩
        · rename_i h
          simp only [F.nt, Bool.not_eq_false'] at h
          subst h
          cbv
          exact ⟨by rw [hr, same_iff.2 (hmk ⟨h0, same_iff.1 hv1, same_iff.1 hv2, same_iff.1 hv3⟩)], trivial⟩
end Vx.D.Ytbnagcgfmlmgnaa
