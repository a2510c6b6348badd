import Derived.Test.YtjfpbaknhaikmaaC1
import Derived.Test.YtjfpbaknhaikmaaRows
/- The row of FnExactIsBetter: for all arguments it returns true, and its arguments read as they did. No condition. -/
open Go Vx
namespace Vx.D.Ytjfpbaknhaikmaa
open Go.Proofs
set_option maxRecDepth 100000
set_option linter.unusedVariables false
set_option linter.unusedSimpArgs false
def better (s r p s1 r1 p1 : Int) : Bool := if s ≠ s1 then decide (s < s1) else if r ≠ r1 then decide (r < r1) else decide (p < p1)

theorem c_impl_IsBetter {a0 a2 a5 a6 b0 b2 b5 b6 : Int} {a3 b3 : ByteArray} {xa1 xa4 xb1 xb4 : List (List T)} :
    Returns E 22 [.agg [.t (.int .i64 a0), .t (.sl false 7 xa1), .t (.int .i64 a2), .t (.str a3), .t (.sl false 3 xa4), .t (.int .i64 a5), .t (.int .i64 a6)], .agg [.t (.int .i64 b0), .t (.sl false 7 xb1), .t (.int .i64 b2), .t (.str b3), .t (.sl false 3 xb4), .t (.int .i64 b5), .t (.int .i64 b6)]] [] (.c (.t (.bool (better a6 a5 a0 b6 b5 b0)))) [] := by
  refine fn_walk tb [0, 1, 2, 3, 4, 9, 19] (fn := Try.f22) hmix htb Try.func22 rfl (by kernel_rfl) (by kernel_rfl) (Nat.le_of_ble_eq_true (by kernel_rfl)) rfl ?_
  intro ar cm sc bc nt ng ln sz tn idx get set vw rep nf R r hπ hR hr
  have F := PF.of hπ
  cbv
  split
  · rename_i h
    simp only [F.neq, decide_eq_true_eq] at h
    cbv
    exact ⟨by rw [hr, F.lss, better, if_pos h], trivial⟩
  · rename_i h
    simp only [F.neq, decide_eq_false_iff_not] at h
    cbv
    split
    · rename_i h1
      simp only [F.neq, decide_eq_true_eq] at h1
      cbv
      exact ⟨by rw [hr, F.lss, better, if_neg h, if_pos h1], trivial⟩
    · rename_i h1
      simp only [F.neq, decide_eq_false_iff_not] at h1
      cbv
      exact ⟨by rw [hr, F.lss, better, if_neg h, if_neg h1], trivial⟩

theorem c_spec_IsBetter {a0 a2 a5 a6 b0 b2 b5 b6 : Int} {a3 b3 : ByteArray} {xa1 xa4 xb1 xb4 : List (List T)} :
    Returns E 20 [.agg [.t (.int .i64 a0), .t (.sl false 7 xa1), .t (.int .i64 a2), .t (.str a3), .t (.sl false 3 xa4), .t (.int .i64 a5), .t (.int .i64 a6)], .agg [.t (.int .i64 b0), .t (.sl false 7 xb1), .t (.int .i64 b2), .t (.str b3), .t (.sl false 3 xb4), .t (.int .i64 b5), .t (.int .i64 b6)]] [] (.c (.t (.bool (better a6 a5 a0 b6 b5 b0)))) [] := by
  refine fn_walk tb [0, 1, 2, 3, 4, 9, 19] (fn := Try.f20) hmix htb Try.func20 rfl (by kernel_rfl) (by kernel_rfl) (Nat.le_of_ble_eq_true (by kernel_rfl)) rfl ?_
  intro ar cm sc bc nt ng ln sz tn idx get set vw rep nf R r hπ hR hr
  have F := PF.of hπ
  cbv
  split
  · rename_i h
    simp only [F.neq, decide_eq_true_eq] at h
    cbv
    exact ⟨by rw [hr, F.lss, better, if_pos h], trivial⟩
  · rename_i h
    simp only [F.neq, decide_eq_false_iff_not] at h
    cbv
    split
    · rename_i h1
      simp only [F.neq, decide_eq_true_eq] at h1
      cbv
      exact ⟨by rw [hr, F.lss, better, if_neg h, if_pos h1], trivial⟩
    · rename_i h1
      simp only [F.neq, decide_eq_false_iff_not] at h1
      cbv
      exact ⟨by rw [hr, F.lss, better, if_neg h, if_neg h1], trivial⟩

theorem c_law (x y : Variant) (hx : G.fin x) (hy : G.fin y) : Returns E 7 [.agg ((G.cells false x).map C.t), .agg ((G.cells false y).map C.t)] [] (.c (.t (.bool true))) [] := by
  obtain ⟨a0, ⟨⟨a1⟩, ⟨a2, a3, a4⟩⟩, a5, a6⟩ := x
  obtain ⟨b0, ⟨⟨b1⟩, ⟨b2, b3, b4⟩⟩, b5, b6⟩ := y
  simp only [Variant.cells, List.map_cons, List.map_nil]
  generalize hxa1 : rows false a1 = xa1
  generalize hxa4 : rows false a4 = xa4
  generalize hxb1 : rows false b1 = xb1
  generalize hxb4 : rows false b4 = xb4
  generalize hza1 : rows true a1 = za1
  generalize hza4 : rows true a4 = za4
  generalize hzb1 : rows true b1 = zb1
  generalize hzb4 : rows true b4 = zb4
  refine fn_walk tb [0, 1, 2, 3, 4, 5, 6, 7, 8, 9, 14, 19, 34, 39, 44] (fn := Try.f7) hmix htb Try.func7 rfl (by kernel_rfl) (by kernel_rfl) (Nat.le_of_ble_eq_true (by kernel_rfl)) rfl ?_
  intro ar cm sc bc nt ng ln sz tn idx get set vw rep nf R r hπ hR hr
  have F := PF.of hπ
  have vz : ∀ (l : List Rule) (z y : List (List T)), rows true l = z → rows false l = y → vw z = y := fun l z y h1 h2 => by rw [F.vw, ← h1, ← h2]; exact rows_view _ _
  have vz' : ∀ (l : List Expr) (z y : List (List T)), rows true l = z → rows false l = y → vw z = y := fun l z y h1 h2 => by rw [F.vw, ← h1, ← h2]; exact rows_view _ _
  have w1 := vz _ _ _ hza1 hxa1
  have w2 := vz' _ _ _ hza4 hxa4
  have w3 := vz _ _ _ hzb1 hxb1
  have w4 := vz' _ _ _ hzb4 hxb4
  cbv
  have hc := c_szVariant hxa1 hxa4 (left := 1048576) (by omega) (by omega) hx
  generalize hv : szv _ _ = v at hc
  refine ⟨_, (hR ▸ hc : R 19 _ _ _ _), ?_⟩
  cbv
  split
  · cbv
    exact ⟨hr.symm, trivial⟩
  rename_i h
  simp only [F.lss, decide_eq_false_iff_not] at h
  have hn := szv_pos hv h
  have hc := c_szVariant hxb1 hxb4 (left := v) (by omega) (by first | omega | (simp only [I] at *; omega)) hy
  generalize hu : szv _ _ = u at hc
  cbv
  refine ⟨_, (hR ▸ hc : R 19 _ _ _ _), ?_⟩
  cbv
  split
  · cbv
    exact ⟨hr.symm, trivial⟩
  rename_i h2
  simp only [F.lss, decide_eq_false_iff_not] at h2
  have hn2 := szv_pos hu h2
  have ba : G.tot (⟨a0, ⟨⟨a1⟩, ⟨a2, a3, a4⟩⟩, a5, a6⟩ : Variant) ≤ 2 ^ 38 := by simp only [I] at *; omega
  have bb : G.tot (⟨b0, ⟨⟨b1⟩, ⟨b2, b3, b4⟩⟩, b5, b6⟩ : Variant) ≤ 2 ^ 38 := by simp only [I] at *; omega
  have ta := c_toVariant (a0 := a0) (a2 := a2) (a3 := a3) (a5 := a5) (a6 := a6) hxa1 hza1 hxa4 hza4 ba
  have tb' := c_toVariant (a0 := b0) (a2 := b2) (a3 := b3) (a5 := b5) (a6 := b6) hxb1 hzb1 hxb4 hzb4 bb
  have ea := c_eqVariant (a0 := a0) (a2 := a2) (a3 := a3) (a5 := a5) (a6 := a6) (b0 := a0) (b2 := a2) (b3 := a3) (b5 := a5) (b6 := a6) (hxa1.trans w1.symm) (hxa4.trans w2.symm) (hxa1.trans w1.symm) (hxa4.trans w2.symm) hx
  have eb := c_eqVariant (a0 := b0) (a2 := b2) (a3 := b3) (a5 := b5) (a6 := b6) (b0 := b0) (b2 := b2) (b3 := b3) (b5 := b5) (b6 := b6) (hxb1.trans w3.symm) (hxb4.trans w4.symm) (hxb1.trans w3.symm) (hxb4.trans w4.symm) hy
  rw [same_self] at ea eb
  generalize hbt : better a6 a5 a0 b6 b5 b0 = bt
  cbv
  refine ⟨_, (hR ▸ ta : R 21 _ _ _ _), ?_⟩
  cbv
  refine ⟨_, (hR ▸ tb' : R 21 _ _ _ _), ?_⟩
  cbv
  refine ⟨_, ⟨(hbt ▸ hR ▸ c_spec_IsBetter : R 20 _ _ (.c (.t (.bool bt))) _), rfl⟩, ?_⟩
  cbv
  refine ⟨_, (hR ▸ ta : R 21 _ _ _ _), ?_⟩
  cbv
  refine ⟨_, (hR ▸ tb' : R 21 _ _ _ _), ?_⟩
  cbv
  refine ⟨_, ⟨(hbt ▸ hR ▸ c_impl_IsBetter : R 22 _ _ (.c (.t (.bool bt))) _), rfl⟩, ?_⟩
  cbv
  split
  · rename_i h3
    simp [F.bneq] at h3
  cbv
  refine ⟨_, (hR ▸ ta : R 21 _ _ _ _), ?_⟩
  cbv
  refine ⟨_, ⟨(hR ▸ ea : R 23 _ _ _ _), rfl⟩, ?_⟩
  cbv
  rw [F.nt]
  cbv
  refine ⟨_, (hR ▸ tb' : R 21 _ _ _ _), ?_⟩
  cbv
  refine ⟨_, ⟨(hR ▸ eb : R 23 _ _ _ _), rfl⟩, ?_⟩
  cbv
  rw [F.nt]
  cbv
  exact ⟨hr.symm, trivial⟩
/-! ## The arguments -/
theorem co3 : Try.prog.cellsOf 3 = 1 := by kernel_rfl
theorem co9 : Try.prog.cellsOf 9 = 1 := by kernel_rfl
theorem co31 : Try.prog.cellsOf 31 = 1 := by kernel_rfl
theorem co33 : Try.prog.cellsOf 33 = 1 := by kernel_rfl
theorem co34 : Try.prog.cellsOf 34 = 1 := by kernel_rfl
theorem co36 : Try.prog.cellsOf 36 = 3 := by kernel_rfl
theorem co38 : Try.prog.cellsOf 38 = 4 := by kernel_rfl
theorem co40 : Try.prog.cellsOf 40 = 7 := by kernel_rfl
theorem co56 : Try.prog.cellsOf 56 = 1 := by kernel_rfl
theorem co82 : Try.prog.cellsOf 82 = 7 := by kernel_rfl
theorem hsupp : supp Try.prog [40, 3, 38, 33, 36, 31, 9, 34, 82, 56] = true := by kernel_rfl
theorem ent_StringS {n : Nat} {row : List T} (h : Row Try.prog n 56 row) : ∃ l : List ByteArray, row = G.cells false l ∧ G.fin l := by
  obtain ⟨xs, rfl, hl, hr⟩ := row_sl Try.underlying56 h
  rw [co9]
  obtain ⟨l, rfl, hf⟩ := rows_of (α := ByteArray) (fun r hm => by obtain ⟨m, _, h⟩ := hr r hm; exact row_str Try.underlying9 h) hl
  exact ⟨l, rfl, hf⟩
theorem ent_Expr0 : ∀ (n : Nat) (row : List T), Row Try.prog n 36 row → ∃ x : Expr, row = G.cells false x ∧ G.fin x := by
    intro n
    induction n using Nat.strongRecOn with
    | ind n ih =>
    intro row h
    obtain ⟨hl, m, hmn, hf⟩ := row_struct Try.underlying36 h
    rw [co36] at hl
    match row, hl with
    | [r0, r1, r2], _ =>
    simp only [List.forall_mem_cons, List.not_mem_nil, false_imp_iff, implies_true, and_true, co3, co9, co34, List.drop_zero, List.drop_succ_cons, List.take_succ_cons, List.take_zero] at hf
    obtain ⟨h0, h1, h2⟩ := hf
    obtain ⟨x0, h0⟩ := row_int Try.underlying3 h0
    simp only [List.cons.injEq, and_true] at h0
    subst h0
    obtain ⟨x1, h1, f1⟩ := row_str Try.underlying9 h1
    change _ = [T.str x1] at h1
    simp only [List.cons.injEq, and_true] at h1
    subst h1
    obtain ⟨xs, h2, hl, hr⟩ := row_sl Try.underlying34 h2
    rw [co36] at h2
    obtain ⟨x2, rfl, f2⟩ := rows_of (α := Expr) (fun r hm => by obtain ⟨m', hm', h⟩ := hr r hm; exact ih m' (Nat.lt_trans hm' hmn) r h) hl
    simp only [List.cons.injEq, and_true] at h2
    subst h2
    exact ⟨⟨x0, x1, x2⟩, by rw [Expr.cells], (Expr.fin _).2 ⟨f1, f2⟩⟩
theorem ent_Expr {n : Nat} {row : List T} (h : Row Try.prog n 36 row) : ∃ x : Expr, row = G.cells false x ∧ G.fin x := ent_Expr0 n row h
theorem ent_Rule {n : Nat} {row : List T} (h : Row Try.prog n 82 row) : ∃ x : Rule, row = G.cells false x ∧ G.fin x := by
    obtain ⟨hl, m, hmn, hf⟩ := row_struct Try.underlying82 h
    rw [co82] at hl
    match row, hl with
    | [r0, r1, r2, r3, r4, r5, r6], _ =>
    simp only [List.forall_mem_cons, List.not_mem_nil, false_imp_iff, implies_true, and_true, co9, co36, co56, List.drop_zero, List.drop_succ_cons, List.take_succ_cons, List.take_zero] at hf
    obtain ⟨h0, h1, h2, h3, h4⟩ := hf
    obtain ⟨x0, h0, f0⟩ := row_str Try.underlying9 h0
    change _ = [T.str x0] at h0
    simp only [List.cons.injEq, and_true] at h0
    subst h0
    obtain ⟨x1, h1, f1⟩ := row_str Try.underlying9 h1
    change _ = [T.str x1] at h1
    simp only [List.cons.injEq, and_true] at h1
    subst h1
    obtain ⟨x2, h2, f2⟩ := ent_StringS h2
    change _ = [T.sl false 1 (rows false x2)] at h2
    simp only [List.cons.injEq, and_true] at h2
    subst h2
    obtain ⟨x3, h3, f3⟩ := ent_StringS h3
    change _ = [T.sl false 1 (rows false x3)] at h3
    simp only [List.cons.injEq, and_true] at h3
    subst h3
    obtain ⟨x4, h4, f4⟩ := ent_Expr h4
    simp only [Expr.cells, List.cons.injEq, and_true] at h4
    obtain ⟨rfl, rfl, rfl⟩ := h4
    exact ⟨⟨x0, x1, x2, x3, x4⟩, rfl, ⟨f0, f1, f2, f3, f4⟩⟩
theorem ent_RuleS {n : Nat} {row : List T} (h : Row Try.prog n 31 row) : ∃ l : List Rule, row = G.cells false l ∧ G.fin l := by
  obtain ⟨xs, rfl, hl, hr⟩ := row_sl Try.underlying31 h
  rw [co82]
  obtain ⟨l, rfl, hf⟩ := rows_of (α := Rule) (fun r hm => by obtain ⟨m, _, h⟩ := hr r hm; exact ent_Rule h) hl
  exact ⟨l, rfl, hf⟩
theorem ent_Program {n : Nat} {row : List T} (h : Row Try.prog n 33 row) : ∃ x : Program, row = G.cells false x ∧ G.fin x := by
    obtain ⟨hl, m, hmn, hf⟩ := row_struct Try.underlying33 h
    rw [co33] at hl
    match row, hl with
    | [r0], _ =>
    simp only [List.forall_mem_cons, List.not_mem_nil, false_imp_iff, implies_true, and_true, co31, List.drop_zero, List.drop_succ_cons, List.take_succ_cons, List.take_zero] at hf
    have h0 := hf
    obtain ⟨x0, h0, f0⟩ := ent_RuleS h0
    change _ = [T.sl false 7 (rows false x0)] at h0
    simp only [List.cons.injEq, and_true] at h0
    subst h0
    exact ⟨⟨x0⟩, rfl, f0⟩
theorem ent_Residual {n : Nat} {row : List T} (h : Row Try.prog n 38 row) : ∃ x : Residual, row = G.cells false x ∧ G.fin x := by
    obtain ⟨hl, m, hmn, hf⟩ := row_struct Try.underlying38 h
    rw [co38] at hl
    match row, hl with
    | [r0, r1, r2, r3], _ =>
    simp only [List.forall_mem_cons, List.not_mem_nil, false_imp_iff, implies_true, and_true, co33, co36, List.drop_zero, List.drop_succ_cons, List.take_succ_cons, List.take_zero] at hf
    obtain ⟨h0, h1⟩ := hf
    obtain ⟨x0, h0, f0⟩ := ent_Program h0
    simp only [Program.cells, List.cons.injEq, and_true] at h0
    subst h0
    obtain ⟨x1, h1, f1⟩ := ent_Expr h1
    simp only [Expr.cells, List.cons.injEq, and_true] at h1
    obtain ⟨rfl, rfl, rfl⟩ := h1
    exact ⟨⟨x0, x1⟩, rfl, ⟨f0, f1⟩⟩
theorem ent_Variant {n : Nat} {row : List T} (h : Row Try.prog n 40 row) : ∃ x : Variant, row = G.cells false x ∧ G.fin x := by
    obtain ⟨hl, m, hmn, hf⟩ := row_struct Try.underlying40 h
    rw [co40] at hl
    match row, hl with
    | [r0, r1, r2, r3, r4, r5, r6], _ =>
    simp only [List.forall_mem_cons, List.not_mem_nil, false_imp_iff, implies_true, and_true, co3, co38, List.drop_zero, List.drop_succ_cons, List.take_succ_cons, List.take_zero] at hf
    obtain ⟨h0, h1, h2, h3⟩ := hf
    obtain ⟨x0, h0⟩ := row_int Try.underlying3 h0
    simp only [List.cons.injEq, and_true] at h0
    subst h0
    obtain ⟨x1, h1, f1⟩ := ent_Residual h1
    simp only [Residual.cells, List.cons.injEq, and_true] at h1
    obtain ⟨rfl, rfl, rfl, rfl⟩ := h1
    obtain ⟨x2, h2⟩ := row_int Try.underlying3 h2
    simp only [List.cons.injEq, and_true] at h2
    subst h2
    obtain ⟨x3, h3⟩ := row_int Try.underlying3 h3
    simp only [List.cons.injEq, and_true] at h3
    subst h3
    exact ⟨⟨x0, x1, x2, x3⟩, rfl, f1⟩
theorem own : ownKnob Try.prog.godebug = none := by kernel_rfl
open Go.Proofs.Ytjfpbaknhaikmaa Go.ChangeShapes Go.WideShapes Go.ChangeAt Go.RowKit in
theorem lifted (hlaw : ∀ (x0 : Variant) (x1 : Variant), G.fin x0 → G.fin x1 → Vx.Returns E 7 [.agg ((G.cells false x0).map C.t), .agg ((G.cells false x1).map C.t)] [] (.c (.t (.bool true))) [])
    (os : Os) (started : os.Started) (H : Type) (enc : TypeId × Value → H) :
    ReturnsInHanded {} Try.checked os 7 .any (Rows.fnExactIsBetterSpec.pre6 enc Try.prog Try.f7 Rows.fnExactIsBetterRow.domain false) (Rows.fnExactIsBetterSpec.post enc Try.prog Try.f7 false true false false) := by
  refine returnsInHanded_of_change_sized (C := Try.checked) own started (by kernel_rfl) Try.func7
    (ChangeSpec.witness6 (enc := enc) (C := Try.checked) false ⟨#[], #[.agg #[.int .i64 0, .slice none 0 0, .int .i64 0, .string ⟨#[]⟩, .slice none 0 0, .int .i64 0, .int .i64 0], .agg #[.int .i64 0, .slice none 0 0, .int .i64 0, .string ⟨#[]⟩, .slice none 0 0, .int .i64 0, .int .i64 0]], []⟩ 40 (by kernel_rfl) (by kernel_rfl) (by kernel_rfl) (by kernel_rfl)) ?_
  intro W base args ds gs before hval0 hW hcnd hsz0 _
  have hval : ∀ (j : Nat) t v, Try.f7.params[j]? = some t → args[j]? = some v → Value.okWide Try.prog W .any base t v := hval0
  have hW' := hW
  obtain ⟨p, q, hA0, hV, rfl, hfz, hnd⟩ := hW
  have hA : DataW.TrodAll enc Try.prog W 0 (fun _ => true) true Try.f7.params.toList args.toList ds p := hA0
  rw [Try.params7] at hA hval
  obtain ⟨v0, vs0, d0, ds0, p0, q0, hargs, rfl, rfl, t0, s0⟩ := trodAll_cons hA
  obtain ⟨v1, vs1, d1, ds1, p1, q1, rfl, rfl, rfl, t1, s1⟩ := trodAll_cons s0
  obtain ⟨rfl, rfl, rfl⟩ := trodAll_nil s1
  obtain rfl : args = #[v0, v1] := by cases args; simp_all
  obtain ⟨rfl, rfl⟩ := trodVars_none hV
  obtain ⟨n0, row0, hr0, hl0, hq0⟩ := entry_sv hsupp (show 40 ∈ [40, 3, 38, 33, 36, 31, 9, 34, 82, 56] by decide) t0
  obtain ⟨x0, rfl, hf0⟩ := ent_Variant hr0
  obtain ⟨cs0, hv0⟩ := okWide_agg Try.underlying40 (hval 0 40 v0 rfl rfl)
  have ha0 : ArgRep W (.agg ((G.cells false x0).map C.t)) v0 := ArgRep.struct hv0 hl0 hq0
  obtain ⟨n1, row1, hr1, hl1, hq1⟩ := entry_sv hsupp (show 40 ∈ [40, 3, 38, 33, 36, 31, 9, 34, 82, 56] by decide) t1
  obtain ⟨x1, rfl, hf1⟩ := ent_Variant hr1
  obtain ⟨cs1, hv1⟩ := okWide_agg Try.underlying40 (hval 1 40 v1 rfl rfl)
  have ha1 : ArgRep W (.agg ((G.cells false x1).map C.t)) v1 := ArgRep.struct hv1 hl1 hq1
  refine (law_calls (hlaw x0 x1 hf0 hf1) (W := W) (vals := #[v0, v1]) rfl (fun n x hn => ?_)).mono fun e W' ⟨he, bel⟩ => ?_
  · match n, hn with
    | 0, hn => cases hn; exact ha0
    | 1, hn => cases hn; exact ha1
    | n + 2, hn => simp at hn
  subst he
  have hcar0 := Below.trod (enc := enc) (P := Try.prog) (t := 40) (by kernel_rfl) (by kernel_rfl) (of_decide_eq_true (by kernel_rfl)) (W := W) (W' := W') t0 bel (fun x hx => hA.lt x (List.mem_append.2 (.inl hx)))
  have hcar1 := Below.trod (enc := enc) (P := Try.prog) (t := 40) (by kernel_rfl) (by kernel_rfl) (of_decide_eq_true (by kernel_rfl)) (W := W) (W' := W') t1 bel (fun x hx => hA.lt x (List.mem_append.2 (.inr (List.mem_append.2 (.inl hx)))))
  exact ⟨_, rfl, _, _, _, [], _, [], hW', trodAll_mk1 (shut_bool Try.underlying4 _), (trodAll_cons_mk hcar0 (trodAll_cons_mk hcar1 trodAll_mk0)), rfl, bel.frame _, fun h => by cases h⟩
open Go.Proofs.Ytjfpbaknhaikmaa in
theorem over (hlaw : ∀ (x0 : Variant) (x1 : Variant), G.fin x0 → G.fin x1 → Vx.Returns E 7 [.agg ((G.cells false x0).map C.t), .agg ((G.cells false x1).map C.t)] [] (.c (.t (.bool true))) []) : Rows.fnExactIsBetterRow.holds Try.pinned (OpenSpec.ofChange Rows.fnExactIsBetterSpec) :=
  OpenClaim.holds_of_wide 7 Try.f7 rfl rfl rfl rfl rfl rfl rfl ⟨rfl, rfl, rfl, rfl, rfl⟩ rfl rfl rfl rfl rfl (by kernel_rfl) Try.func7 (by kernel_rfl)
    (of_decide_eq_true (by kernel_rfl)) (by unfold Func.isWrapper; first | (rw [if_pos (by decide +kernel)]; kernel_rfl) | (rw [if_neg (by decide +kernel)]; exact ⟨rfl, rfl⟩))
    (fun os started H enc _ => lifted hlaw os started H enc)
open Go.Proofs.Ytjfpbaknhaikmaa in
theorem proved_FnExactIsBetter : Rows.FnExactIsBetterSaid := over c_law
end Vx.D.Ytjfpbaknhaikmaa
namespace Go.Proofs.Ytjfpbaknhaikmaa
/-- The row, under a short name, for the claim. -/
theorem fnExactIsBetter_holds : Rows.FnExactIsBetterSaid := Vx.D.Ytjfpbaknhaikmaa.proved_FnExactIsBetter
end Go.Proofs.Ytjfpbaknhaikmaa
