import Derived.Test.YtbnagcgfmlmgnaaC1
import Derived.Test.YtbnagcgfmlmgnaaC2
import Derived.Test.YtbnagcgfmlmgnaaC3
import Derived.Test.YtbnagcgfmlmgnaaRows
/- The row of FnExactEqualBase: for all arguments it returns true, and its arguments read as they did. No condition. -/
open Go Vx
namespace Vx.D.Ytbnagcgfmlmgnaa
open Go.Proofs
set_option maxRecDepth 100000
set_option linter.unusedVariables false
set_option linter.unusedSimpArgs false

theorem c_law (x y : Base) (hx : G.fin x) (hy : G.fin y) : Returns E 3 [.agg ((G.cells false x).map C.t), .agg ((G.cells false y).map C.t)] [] (.c (.t (.bool true))) [] := by
  obtain ⟨⟨a0⟩, a1⟩ := x
  obtain ⟨⟨b0⟩, b1⟩ := y
  simp only [Base.cells, List.map_cons, List.map_nil]
  generalize hxa0 : rows false a0 = xa0
  generalize hxa1 : rows false a1 = xa1
  generalize hxb0 : rows false b0 = xb0
  generalize hxb1 : rows false b1 = xb1
  generalize hza0 : rows true a0 = za0
  generalize hza1 : rows true a1 = za1
  generalize hzb0 : rows true b0 = zb0
  generalize hzb1 : rows true b1 = zb1
  refine fn_walk tb [0, 1, 2, 3, 4, 5, 6, 7, 8, 9, 14, 19, 34, 39, 44] (fn := Try.f3) hmix htb Try.func3 rfl (by kernel_rfl) (by kernel_rfl) (Nat.le_of_ble_eq_true (by kernel_rfl)) rfl ?_
  intro ar cm sc bc nt ng ln sz tn idx get set vw rep nf R r hπ hR hr
  have F := PF.of hπ
  have vz : ∀ {α : Type} [G α] (l : List α) (z y : List (List T)), rows true l = z → rows false l = y → vw z = y := fun l z y h1 h2 => by rw [F.vw, ← h1, ← h2]; exact rows_view _ _
  have wa0 := vz _ _ _ hza0 hxa0
  have wa1 := vz _ _ _ hza1 hxa1
  have wb0 := vz _ _ _ hzb0 hxb0
  have wb1 := vz _ _ _ hzb1 hxb1
  cbv
  have hc := c_szBase (a0 := a0) (a1 := a1) hxa0 hxa1 (left := 1048576) (by omega) (by omega) hx
  generalize hv : szv _ _ = v at hc
  refine ⟨_, (hR ▸ hc : R 7 _ _ _ _), ?_⟩
  cbv
  split
  · cbv
    exact ⟨hr.symm, trivial⟩
  rename_i h
  simp only [F.lss, decide_eq_false_iff_not] at h
  have hn := szv_pos hv h
  have hc := c_szBase (a0 := b0) (a1 := b1) hxb0 hxb1 (left := v) (by omega) (by first | omega | (simp only [I] at *; omega)) hy
  generalize hu : szv _ _ = u at hc
  cbv
  refine ⟨_, (hR ▸ hc : R 7 _ _ _ _), ?_⟩
  cbv
  split
  · cbv
    exact ⟨hr.symm, trivial⟩
  rename_i h2
  simp only [F.lss, decide_eq_false_iff_not] at h2
  have hn2 := szv_pos hu h2
  have ba : G.tot (⟨⟨a0⟩, a1⟩ : Base) ≤ 2 ^ 38 := by simp only [I] at *; omega
  have bb : G.tot (⟨⟨b0⟩, b1⟩ : Base) ≤ 2 ^ 38 := by simp only [I] at *; omega
  have ta := c_toBase (a0 := a0) (a1 := a1) hxa0 hza0 hxa1 hza1 ba
  have tb' := c_toBase (a0 := b0) (a1 := b1) hxb0 hzb0 hxb1 hzb1 bb
  have ea := c_eqBase (a0 := a0) (a1 := a1) (b0 := a0) (b1 := a1) (hxa0.trans wa0.symm) (hxa1.trans wa1.symm) (hxa0.trans wa0.symm) (hxa1.trans wa1.symm) hx
  have eb := c_eqBase (a0 := b0) (a1 := b1) (b0 := b0) (b1 := b1) (hxb0.trans wb0.symm) (hxb1.trans wb1.symm) (hxb0.trans wb0.symm) (hxb1.trans wb1.symm) hy
  rw [same_self] at ea eb
  have cs := c_sEqBase (a0 := a0) (a1 := a1) (b0 := b0) (b1 := b1) (hxa0.trans wa0.symm) (hxa1.trans wa1.symm) (hxb0.trans wb0.symm) (hxb1.trans wb1.symm) hx
  have ci := c_iEqBase (a0 := a0) (a1 := a1) (b0 := b0) (b1 := b1) (hxa0.trans wa0.symm) (hxa1.trans wa1.symm) (hxb0.trans wb0.symm) (hxb1.trans wb1.symm) hx
  generalize hbt : same (⟨⟨a0⟩, a1⟩ : Base) (⟨⟨b0⟩, b1⟩ : Base) = bt at cs ci
  cbv
  refine ⟨_, (hR ▸ ta : R 9 _ _ _ _), ?_⟩
  cbv
  refine ⟨_, (hR ▸ tb' : R 9 _ _ _ _), ?_⟩
  cbv
  refine ⟨_, ⟨(hR ▸ cs : R 8 _ _ _ _), rfl⟩, ?_⟩
  cbv
  refine ⟨_, (hR ▸ ta : R 9 _ _ _ _), ?_⟩
  cbv
  refine ⟨_, (hR ▸ tb' : R 9 _ _ _ _), ?_⟩
  cbv
  refine ⟨_, ⟨(hR ▸ ci : R 10 _ _ _ _), rfl⟩, ?_⟩
  cbv
  cases h3 : bc .neq bt bt
  case true => simp [F.bneq] at h3
  case false =>
  cbv
  refine ⟨_, (hR ▸ ta : R 9 _ _ _ _), ?_⟩
  cbv
  refine ⟨_, ⟨(hR ▸ ea : R 11 _ _ _ _), rfl⟩, ?_⟩
  cbv
  rw [F.nt]
  cbv
  refine ⟨_, (hR ▸ tb' : R 9 _ _ _ _), ?_⟩
  cbv
  refine ⟨_, ⟨(hR ▸ eb : R 11 _ _ _ _), rfl⟩, ?_⟩
  cbv
  rw [F.nt]
  cbv
  exact ⟨hr.symm, trivial⟩
/-! ## The arguments -/
theorem co3 : Try.prog.cellsOf 3 = 1 := by kernel_rfl
theorem co4 : Try.prog.cellsOf 4 = 1 := by kernel_rfl
theorem co9 : Try.prog.cellsOf 9 = 1 := by kernel_rfl
theorem co22 : Try.prog.cellsOf 22 = 1 := by kernel_rfl
theorem co24 : Try.prog.cellsOf 24 = 1 := by kernel_rfl
theorem co25 : Try.prog.cellsOf 25 = 1 := by kernel_rfl
theorem co27 : Try.prog.cellsOf 27 = 2 := by kernel_rfl
theorem co56 : Try.prog.cellsOf 56 = 1 := by kernel_rfl
theorem co58 : Try.prog.cellsOf 58 = 3 := by kernel_rfl
theorem co63 : Try.prog.cellsOf 63 = 4 := by kernel_rfl
theorem co82 : Try.prog.cellsOf 82 = 1 := by kernel_rfl
theorem co116 : Try.prog.cellsOf 116 = 9 := by kernel_rfl
theorem co145 : Try.prog.cellsOf 145 = 7 := by kernel_rfl
theorem hsupp : supp Try.prog [27, 24, 25, 22, 116, 145, 58, 82, 4, 63, 9, 3, 56] = true := by kernel_rfl
theorem ent_StringS {n : Nat} {row : List T} (h : Row Try.prog n 82 row) : ∃ l : List ByteArray, row = G.cells false l ∧ G.fin l := by
  obtain ⟨xs, rfl, hl, hr⟩ := row_sl Try.underlying82 h
  rw [co9]
  obtain ⟨l, rfl, hf⟩ := rows_of (α := ByteArray) (fun r hm => by obtain ⟨m, _, h⟩ := hr r hm; exact row_str Try.underlying9 h) hl
  exact ⟨l, rfl, hf⟩
theorem ent_Expr0 : ∀ (n : Nat) (row : List T), Row Try.prog n 58 row → ∃ x : Expr, row = G.cells false x ∧ G.fin x := by
    intro n
    induction n using Nat.strongRecOn with
    | ind n ih =>
    intro row h
    obtain ⟨hl, m, hmn, hf⟩ := row_struct Try.underlying58 h
    rw [co58] at hl
    match row, hl with
    | [r0, r1, r2], _ =>
    simp only [List.forall_mem_cons, List.not_mem_nil, false_imp_iff, implies_true, and_true, co3, co9, co56, List.drop_zero, List.drop_succ_cons, List.take_succ_cons, List.take_zero] at hf
    obtain ⟨h0, h1, h2⟩ := hf
    obtain ⟨x0, h0⟩ := row_int Try.underlying3 h0
    simp only [List.cons.injEq, and_true] at h0
    subst h0
    obtain ⟨x1, h1, f1⟩ := row_str Try.underlying9 h1
    change _ = [T.str x1] at h1
    simp only [List.cons.injEq, and_true] at h1
    subst h1
    obtain ⟨xs, h2, hl, hr⟩ := row_sl Try.underlying56 h2
    rw [co58] at h2
    obtain ⟨x2, rfl, f2⟩ := rows_of (α := Expr) (fun r hm => by obtain ⟨m', hm', h⟩ := hr r hm; exact ih m' (Nat.lt_trans hm' hmn) r h) hl
    simp only [List.cons.injEq, and_true] at h2
    subst h2
    exact ⟨⟨x0, x1, x2⟩, by rw [Expr.cells], (Expr.fin _).2 ⟨f1, f2⟩⟩
theorem ent_Expr {n : Nat} {row : List T} (h : Row Try.prog n 58 row) : ∃ x : Expr, row = G.cells false x ∧ G.fin x := ent_Expr0 n row h
theorem ent_Rule {n : Nat} {row : List T} (h : Row Try.prog n 145 row) : ∃ x : Rule, row = G.cells false x ∧ G.fin x := by
    obtain ⟨hl, m, hmn, hf⟩ := row_struct Try.underlying145 h
    rw [co145] at hl
    match row, hl with
    | [r0, r1, r2, r3, r4, r5, r6], _ =>
    simp only [List.forall_mem_cons, List.not_mem_nil, false_imp_iff, implies_true, and_true, co9, co58, co82, List.drop_zero, List.drop_succ_cons, List.take_succ_cons, List.take_zero] at hf
    obtain ⟨h0, h1, h2, h3, h4⟩ := hf
    obtain ⟨x0, h0, f0⟩ := row_str Try.underlying9 h0
    change _ = [T.str x0] at h0
    simp only [List.cons.injEq, and_true] at h0
    subst h0
    obtain ⟨x1, h1, f1⟩ := row_str Try.underlying9 h1
    change _ = [T.str x1] at h1
    simp only [List.cons.injEq, and_true] at h1
    subst h1
    obtain ⟨x2, h2, f2⟩ := ent_StringS h2
    change _ = [T.sl false 1 (rows false x2)] at h2
    simp only [List.cons.injEq, and_true] at h2
    subst h2
    obtain ⟨x3, h3, f3⟩ := ent_StringS h3
    change _ = [T.sl false 1 (rows false x3)] at h3
    simp only [List.cons.injEq, and_true] at h3
    subst h3
    obtain ⟨x4, h4, f4⟩ := ent_Expr h4
    simp only [Expr.cells, List.cons.injEq, and_true] at h4
    obtain ⟨rfl, rfl, rfl⟩ := h4
    exact ⟨⟨x0, x1, x2, x3, x4⟩, rfl, ⟨f0, f1, f2, f3, f4⟩⟩
theorem ent_RuleS {n : Nat} {row : List T} (h : Row Try.prog n 22 row) : ∃ l : List Rule, row = G.cells false l ∧ G.fin l := by
  obtain ⟨xs, rfl, hl, hr⟩ := row_sl Try.underlying22 h
  rw [co145]
  obtain ⟨l, rfl, hf⟩ := rows_of (α := Rule) (fun r hm => by obtain ⟨m, _, h⟩ := hr r hm; exact ent_Rule h) hl
  exact ⟨l, rfl, hf⟩
theorem ent_Program {n : Nat} {row : List T} (h : Row Try.prog n 24 row) : ∃ x : Program, row = G.cells false x ∧ G.fin x := by
    obtain ⟨hl, m, hmn, hf⟩ := row_struct Try.underlying24 h
    rw [co24] at hl
    match row, hl with
    | [r0], _ =>
    simp only [List.forall_mem_cons, List.not_mem_nil, false_imp_iff, implies_true, and_true, co22, List.drop_zero, List.drop_succ_cons, List.take_succ_cons, List.take_zero] at hf
    have h0 := hf
    obtain ⟨x0, h0, f0⟩ := ent_RuleS h0
    change _ = [T.sl false 7 (rows false x0)] at h0
    simp only [List.cons.injEq, and_true] at h0
    subst h0
    exact ⟨⟨x0⟩, rfl, f0⟩
theorem ent_Residual {n : Nat} {row : List T} (h : Row Try.prog n 63 row) : ∃ x : Residual, row = G.cells false x ∧ G.fin x := by
    obtain ⟨hl, m, hmn, hf⟩ := row_struct Try.underlying63 h
    rw [co63] at hl
    match row, hl with
    | [r0, r1, r2, r3], _ =>
    simp only [List.forall_mem_cons, List.not_mem_nil, false_imp_iff, implies_true, and_true, co24, co58, List.drop_zero, List.drop_succ_cons, List.take_succ_cons, List.take_zero] at hf
    obtain ⟨h0, h1⟩ := hf
    obtain ⟨x0, h0, f0⟩ := ent_Program h0
    simp only [Program.cells, List.cons.injEq, and_true] at h0
    subst h0
    obtain ⟨x1, h1, f1⟩ := ent_Expr h1
    simp only [Expr.cells, List.cons.injEq, and_true] at h1
    obtain ⟨rfl, rfl, rfl⟩ := h1
    exact ⟨⟨x0, x1⟩, rfl, ⟨f0, f1⟩⟩
theorem ent_Entry {n : Nat} {row : List T} (h : Row Try.prog n 116 row) : ∃ x : Entry, row = G.cells false x ∧ G.fin x := by
    obtain ⟨hl, m, hmn, hf⟩ := row_struct Try.underlying116 h
    rw [co116] at hl
    match row, hl with
    | [r0, r1, r2, r3, r4, r5, r6, r7, r8], _ =>
    simp only [List.forall_mem_cons, List.not_mem_nil, false_imp_iff, implies_true, and_true, co4, co58, co63, co82, List.drop_zero, List.drop_succ_cons, List.take_succ_cons, List.take_zero] at hf
    obtain ⟨h0, h1, h2, h3⟩ := hf
    obtain ⟨x0, h0, f0⟩ := ent_Expr h0
    simp only [Expr.cells, List.cons.injEq, and_true] at h0
    obtain ⟨rfl, rfl, rfl⟩ := h0
    obtain ⟨x1, h1, f1⟩ := ent_StringS h1
    change _ = [T.sl false 1 (rows false x1)] at h1
    simp only [List.cons.injEq, and_true] at h1
    subst h1
    obtain ⟨x2, h2⟩ := row_bool Try.underlying4 h2
    simp only [List.cons.injEq, and_true] at h2
    subst h2
    obtain ⟨x3, h3, f3⟩ := ent_Residual h3
    simp only [Residual.cells, List.cons.injEq, and_true] at h3
    obtain ⟨rfl, rfl, rfl, rfl⟩ := h3
    exact ⟨⟨x0, x1, x2, x3⟩, rfl, ⟨f0, f1, f3⟩⟩
theorem ent_EntryS {n : Nat} {row : List T} (h : Row Try.prog n 25 row) : ∃ l : List Entry, row = G.cells false l ∧ G.fin l := by
  obtain ⟨xs, rfl, hl, hr⟩ := row_sl Try.underlying25 h
  rw [co116]
  obtain ⟨l, rfl, hf⟩ := rows_of (α := Entry) (fun r hm => by obtain ⟨m, _, h⟩ := hr r hm; exact ent_Entry h) hl
  exact ⟨l, rfl, hf⟩
theorem ent_Base {n : Nat} {row : List T} (h : Row Try.prog n 27 row) : ∃ x : Base, row = G.cells false x ∧ G.fin x := by
    obtain ⟨hl, m, hmn, hf⟩ := row_struct Try.underlying27 h
    rw [co27] at hl
    match row, hl with
    | [r0, r1], _ =>
    simp only [List.forall_mem_cons, List.not_mem_nil, false_imp_iff, implies_true, and_true, co24, co25, List.drop_zero, List.drop_succ_cons, List.take_succ_cons, List.take_zero] at hf
    obtain ⟨h0, h1⟩ := hf
    obtain ⟨x0, h0, f0⟩ := ent_Program h0
    simp only [Program.cells, List.cons.injEq, and_true] at h0
    subst h0
    obtain ⟨x1, h1, f1⟩ := ent_EntryS h1
    change _ = [T.sl false 9 (rows false x1)] at h1
    simp only [List.cons.injEq, and_true] at h1
    subst h1
    exact ⟨⟨x0, x1⟩, rfl, ⟨f0, f1⟩⟩
theorem own : ownKnob Try.prog.godebug = none := by kernel_rfl
open Go.Proofs.Ytbnagcgfmlmgnaa Go.ChangeShapes Go.WideShapes Go.ChangeAt Go.RowKit in
theorem lifted (hlaw : ∀ (x0 : Base) (x1 : Base), G.fin x0 → G.fin x1 → Vx.Returns E 3 [.agg ((G.cells false x0).map C.t), .agg ((G.cells false x1).map C.t)] [] (.c (.t (.bool true))) [])
    (os : Os) (started : os.Started) (H : Type) (enc : TypeId × Value → H) :
    ReturnsInHanded {} Try.checked os 3 .any (Rows.fnExactEqualBaseSpec.pre6 enc Try.prog Try.f3 Rows.fnExactEqualBaseRow.domain false) (Rows.fnExactEqualBaseSpec.post enc Try.prog Try.f3 false true false false) := by
  refine returnsInHanded_of_change_sized (C := Try.checked) own started (by kernel_rfl) Try.func3
    (ChangeSpec.witness6 (enc := enc) (C := Try.checked) false ⟨#[], #[.agg #[.slice none 0 0, .slice none 0 0], .agg #[.slice none 0 0, .slice none 0 0]], []⟩ 40 (by kernel_rfl) (by kernel_rfl) (by kernel_rfl) (by kernel_rfl)) ?_
  intro W base args ds gs before hval0 hW hcnd hsz0 _
  have hval : ∀ (j : Nat) t v, Try.f3.params[j]? = some t → args[j]? = some v → Value.okWide Try.prog W .any base t v := hval0
  have hW' := hW
  obtain ⟨p, q, hA0, hV, rfl, hfz, hnd⟩ := hW
  have hA : DataW.TrodAll enc Try.prog W 0 (fun _ => true) true Try.f3.params.toList args.toList ds p := hA0
  rw [Try.params3] at hA hval
  obtain ⟨v0, vs0, d0, ds0, p0, q0, hargs, rfl, rfl, t0, s0⟩ := trodAll_cons hA
  obtain ⟨v1, vs1, d1, ds1, p1, q1, rfl, rfl, rfl, t1, s1⟩ := trodAll_cons s0
  obtain ⟨rfl, rfl, rfl⟩ := trodAll_nil s1
  obtain rfl : args = #[v0, v1] := by cases args; simp_all
  obtain ⟨rfl, rfl⟩ := trodVars_none hV
  obtain ⟨n0, row0, hr0, hl0, hq0⟩ := entry_sv hsupp (show 27 ∈ [27, 24, 25, 22, 116, 145, 58, 82, 4, 63, 9, 3, 56] by decide) t0
  obtain ⟨x0, rfl, hf0⟩ := ent_Base hr0
  obtain ⟨cs0, hv0⟩ := okWide_agg Try.underlying27 (hval 0 27 v0 rfl rfl)
  have ha0 : ArgRep W (.agg ((G.cells false x0).map C.t)) v0 := ArgRep.struct hv0 hl0 hq0
  obtain ⟨n1, row1, hr1, hl1, hq1⟩ := entry_sv hsupp (show 27 ∈ [27, 24, 25, 22, 116, 145, 58, 82, 4, 63, 9, 3, 56] by decide) t1
  obtain ⟨x1, rfl, hf1⟩ := ent_Base hr1
  obtain ⟨cs1, hv1⟩ := okWide_agg Try.underlying27 (hval 1 27 v1 rfl rfl)
  have ha1 : ArgRep W (.agg ((G.cells false x1).map C.t)) v1 := ArgRep.struct hv1 hl1 hq1
  refine (law_calls (hlaw x0 x1 hf0 hf1) (W := W) (vals := #[v0, v1]) rfl (fun n x hn => ?_)).mono fun e W' ⟨he, bel⟩ => ?_
  · match n, hn with
    | 0, hn => cases hn; exact ha0
    | 1, hn => cases hn; exact ha1
    | n + 2, hn => simp at hn
  subst he
  have hcar0 := Below.trod (enc := enc) (P := Try.prog) (t := 27) (by kernel_rfl) (by kernel_rfl) (of_decide_eq_true (by kernel_rfl)) (W := W) (W' := W') t0 bel (fun x hx => hA.lt x (List.mem_append.2 (.inl hx)))
  have hcar1 := Below.trod (enc := enc) (P := Try.prog) (t := 27) (by kernel_rfl) (by kernel_rfl) (of_decide_eq_true (by kernel_rfl)) (W := W) (W' := W') t1 bel (fun x hx => hA.lt x (List.mem_append.2 (.inr (List.mem_append.2 (.inl hx)))))
  exact ⟨_, rfl, _, _, _, [], _, [], hW', trodAll_mk1 (shut_bool Try.underlying4 _), (trodAll_cons_mk hcar0 (trodAll_cons_mk hcar1 trodAll_mk0)), rfl, bel.frame _, fun h => by cases h⟩
open Go.Proofs.Ytbnagcgfmlmgnaa in
theorem over (hlaw : ∀ (x0 : Base) (x1 : Base), G.fin x0 → G.fin x1 → Vx.Returns E 3 [.agg ((G.cells false x0).map C.t), .agg ((G.cells false x1).map C.t)] [] (.c (.t (.bool true))) []) : Rows.fnExactEqualBaseRow.holds Try.pinned (OpenSpec.ofChange Rows.fnExactEqualBaseSpec) :=
  OpenClaim.holds_of_wide 3 Try.f3 rfl rfl rfl rfl rfl rfl rfl ⟨rfl, rfl, rfl, rfl, rfl⟩ rfl rfl rfl rfl rfl (by kernel_rfl) Try.func3 (by kernel_rfl)
    (of_decide_eq_true (by kernel_rfl)) (by unfold Func.isWrapper; first | (rw [if_pos (by decide +kernel)]; kernel_rfl) | (rw [if_neg (by decide +kernel)]; exact ⟨rfl, rfl⟩))
    (fun os started H enc _ => lifted hlaw os started H enc)
open Go.Proofs.Ytbnagcgfmlmgnaa in
theorem proved_FnExactEqualBase : Rows.FnExactEqualBaseSaid := over c_law
end Vx.D.Ytbnagcgfmlmgnaa
namespace Go.Proofs.Ytbnagcgfmlmgnaa
/-- The row, under a short name, for the claim. -/
theorem fnExactEqualBase_holds : Rows.FnExactEqualBaseSaid := Vx.D.Ytbnagcgfmlmgnaa.proved_FnExactEqualBase
end Go.Proofs.Ytbnagcgfmlmgnaa
