import Derived.Test.YtbnagcgfmlmgnaaC1s
import Derived.Test.YtbnagcgfmlmgnaaC2
import Derived.Test.YtbnagcgfmlmgnaaC3
import Derived.Test.YtbnagcgfmlmgnaaRows
/- The row of FnExactEqualSession: for all arguments it returns true, and its arguments read as they did. No condition. -/
open Go Vx
namespace Vx.D.Ytbnagcgfmlmgnaa
open Go.Proofs
set_option maxRecDepth 100000
set_option linter.unusedVariables false
set_option linter.unusedSimpArgs false

theorem c_lawS (x y : Session) (hx : G.fin x) (hy : G.fin y) : Returns E 5 [.agg ((G.cells false x).map C.t), .agg ((G.cells false y).map C.t)] [] (.c (.t (.bool true))) [] := by
  obtain ⟨a0, ⟨a1, a2, a3⟩, ⟨a4⟩, ⟨⟨a5⟩, ⟨a6, a7, a8⟩⟩⟩ := x
  obtain ⟨b0, ⟨b1, b2, b3⟩, ⟨b4⟩, ⟨⟨b5⟩, ⟨b6, b7, b8⟩⟩⟩ := y
  simp only [Session.cells, List.map_cons, List.map_nil]
  generalize hxa3 : rows false a3 = xa3
  generalize hxa4 : rows false a4 = xa4
  generalize hxa5 : rows false a5 = xa5
  generalize hxa8 : rows false a8 = xa8
  generalize hxb3 : rows false b3 = xb3
  generalize hxb4 : rows false b4 = xb4
  generalize hxb5 : rows false b5 = xb5
  generalize hxb8 : rows false b8 = xb8
  generalize hza3 : rows true a3 = za3
  generalize hza4 : rows true a4 = za4
  generalize hza5 : rows true a5 = za5
  generalize hza8 : rows true a8 = za8
  generalize hzb3 : rows true b3 = zb3
  generalize hzb4 : rows true b4 = zb4
  generalize hzb5 : rows true b5 = zb5
  generalize hzb8 : rows true b8 = zb8
  refine fn_walk tb [0, 1, 2, 3, 4, 5, 6, 7, 8, 9, 14, 19, 34, 39, 44] (fn := Try.f5) hmix htb Try.func5 rfl (by kernel_rfl) (by kernel_rfl) (Nat.le_of_ble_eq_true (by kernel_rfl)) rfl ?_
  intro ar cm sc bc nt ng ln sz tn idx get set vw rep nf R r hπ hR hr
  have F := PF.of hπ
  have vz : ∀ {α : Type} [G α] (l : List α) (z y : List (List T)), rows true l = z → rows false l = y → vw z = y := fun l z y h1 h2 => by rw [F.vw, ← h1, ← h2]; exact rows_view _ _
  have wa3 := vz _ _ _ hza3 hxa3
  have wa4 := vz _ _ _ hza4 hxa4
  have wa5 := vz _ _ _ hza5 hxa5
  have wa8 := vz _ _ _ hza8 hxa8
  have wb3 := vz _ _ _ hzb3 hxb3
  have wb4 := vz _ _ _ hzb4 hxb4
  have wb5 := vz _ _ _ hzb5 hxb5
  have wb8 := vz _ _ _ hzb8 hxb8
  cbv
  have hc := c_szSession (a0 := a0) (a1 := a1) (a2 := a2) (a3 := a3) (a4 := a4) (a5 := a5) (a6 := a6) (a7 := a7) (a8 := a8) hxa3 hxa4 hxa5 hxa8 (left := 1048576) (by omega) (by omega) hx
  generalize hv : szv _ _ = v at hc
  refine ⟨_, (hR ▸ hc : R 21 _ _ _ _), ?_⟩
  cbv
  split
  · cbv
    exact ⟨hr.symm, trivial⟩
  rename_i h
  simp only [F.lss, decide_eq_false_iff_not] at h
  have hn := szv_pos hv h
  have hc := c_szSession (a0 := b0) (a1 := b1) (a2 := b2) (a3 := b3) (a4 := b4) (a5 := b5) (a6 := b6) (a7 := b7) (a8 := b8) hxb3 hxb4 hxb5 hxb8 (left := v) (by omega) (by first | omega | (simp only [I] at *; omega)) hy
  generalize hu : szv _ _ = u at hc
  cbv
  refine ⟨_, (hR ▸ hc : R 21 _ _ _ _), ?_⟩
  cbv
  split
  · cbv
    exact ⟨hr.symm, trivial⟩
  rename_i h2
  simp only [F.lss, decide_eq_false_iff_not] at h2
  have hn2 := szv_pos hu h2
  have ba : G.tot (⟨a0, ⟨a1, a2, a3⟩, ⟨a4⟩, ⟨⟨a5⟩, ⟨a6, a7, a8⟩⟩⟩ : Session) ≤ 2 ^ 38 := by simp only [I] at *; omega
  have bb : G.tot (⟨b0, ⟨b1, b2, b3⟩, ⟨b4⟩, ⟨⟨b5⟩, ⟨b6, b7, b8⟩⟩⟩ : Session) ≤ 2 ^ 38 := by simp only [I] at *; omega
  have ta := c_toSession (a0 := a0) (a1 := a1) (a2 := a2) (a3 := a3) (a4 := a4) (a5 := a5) (a6 := a6) (a7 := a7) (a8 := a8) hxa3 hza3 hxa4 hza4 hxa5 hza5 hxa8 hza8 ba
  have tb' := c_toSession (a0 := b0) (a1 := b1) (a2 := b2) (a3 := b3) (a4 := b4) (a5 := b5) (a6 := b6) (a7 := b7) (a8 := b8) hxb3 hzb3 hxb4 hzb4 hxb5 hzb5 hxb8 hzb8 bb
  have ea := c_eqSession (a0 := a0) (a1 := a1) (a2 := a2) (a3 := a3) (a4 := a4) (a5 := a5) (a6 := a6) (a7 := a7) (a8 := a8) (b0 := a0) (b1 := a1) (b2 := a2) (b3 := a3) (b4 := a4) (b5 := a5) (b6 := a6) (b7 := a7) (b8 := a8) (hxa3.trans wa3.symm) (hxa4.trans wa4.symm) (hxa5.trans wa5.symm) (hxa8.trans wa8.symm) (hxa3.trans wa3.symm) (hxa4.trans wa4.symm) (hxa5.trans wa5.symm) (hxa8.trans wa8.symm) hx
  have eb := c_eqSession (a0 := b0) (a1 := b1) (a2 := b2) (a3 := b3) (a4 := b4) (a5 := b5) (a6 := b6) (a7 := b7) (a8 := b8) (b0 := b0) (b1 := b1) (b2 := b2) (b3 := b3) (b4 := b4) (b5 := b5) (b6 := b6) (b7 := b7) (b8 := b8) (hxb3.trans wb3.symm) (hxb4.trans wb4.symm) (hxb5.trans wb5.symm) (hxb8.trans wb8.symm) (hxb3.trans wb3.symm) (hxb4.trans wb4.symm) (hxb5.trans wb5.symm) (hxb8.trans wb8.symm) hy
  rw [same_self] at ea eb
  have cs := c_sEqSession (a0 := a0) (a1 := a1) (a2 := a2) (a3 := a3) (a4 := a4) (a5 := a5) (a6 := a6) (a7 := a7) (a8 := a8) (b0 := b0) (b1 := b1) (b2 := b2) (b3 := b3) (b4 := b4) (b5 := b5) (b6 := b6) (b7 := b7) (b8 := b8) (hxa3.trans wa3.symm) (hxa4.trans wa4.symm) (hxa5.trans wa5.symm) (hxa8.trans wa8.symm) (hxb3.trans wb3.symm) (hxb4.trans wb4.symm) (hxb5.trans wb5.symm) (hxb8.trans wb8.symm) hx
  have ci := c_iEqSession (a0 := a0) (a1 := a1) (a2 := a2) (a3 := a3) (a4 := a4) (a5 := a5) (a6 := a6) (a7 := a7) (a8 := a8) (b0 := b0) (b1 := b1) (b2 := b2) (b3 := b3) (b4 := b4) (b5 := b5) (b6 := b6) (b7 := b7) (b8 := b8) (hxa3.trans wa3.symm) (hxa4.trans wa4.symm) (hxa5.trans wa5.symm) (hxa8.trans wa8.symm) (hxb3.trans wb3.symm) (hxb4.trans wb4.symm) (hxb5.trans wb5.symm) (hxb8.trans wb8.symm) hx
  generalize hbt : same (⟨a0, ⟨a1, a2, a3⟩, ⟨a4⟩, ⟨⟨a5⟩, ⟨a6, a7, a8⟩⟩⟩ : Session) (⟨b0, ⟨b1, b2, b3⟩, ⟨b4⟩, ⟨⟨b5⟩, ⟨b6, b7, b8⟩⟩⟩ : Session) = bt at cs ci
  cbv
  refine ⟨_, (hR ▸ ta : R 23 _ _ _ _), ?_⟩
  cbv
  refine ⟨_, (hR ▸ tb' : R 23 _ _ _ _), ?_⟩
  cbv
  refine ⟨_, ⟨(hR ▸ cs : R 22 _ _ _ _), rfl⟩, ?_⟩
  cbv
  refine ⟨_, (hR ▸ ta : R 23 _ _ _ _), ?_⟩
  cbv
  refine ⟨_, (hR ▸ tb' : R 23 _ _ _ _), ?_⟩
  cbv
  refine ⟨_, ⟨(hR ▸ ci : R 24 _ _ _ _), rfl⟩, ?_⟩
  cbv
  cases h3 : bc .neq bt bt
  case true => simp [F.bneq] at h3
  case false =>
  cbv
  refine ⟨_, (hR ▸ ta : R 23 _ _ _ _), ?_⟩
  cbv
  refine ⟨_, ⟨(hR ▸ ea : R 25 _ _ _ _), rfl⟩, ?_⟩
  cbv
  rw [F.nt]
  cbv
  refine ⟨_, (hR ▸ tb' : R 23 _ _ _ _), ?_⟩
  cbv
  refine ⟨_, ⟨(hR ▸ eb : R 25 _ _ _ _), rfl⟩, ?_⟩
  cbv
  rw [F.nt]
  cbv
  exact ⟨hr.symm, trivial⟩
/-! ## The arguments -/
theorem co3 : Try.prog.cellsOf 3 = 1 := by kernel_rfl
theorem co9 : Try.prog.cellsOf 9 = 1 := by kernel_rfl
theorem co22 : Try.prog.cellsOf 22 = 1 := by kernel_rfl
theorem co24 : Try.prog.cellsOf 24 = 1 := by kernel_rfl
theorem co56 : Try.prog.cellsOf 56 = 1 := by kernel_rfl
theorem co58 : Try.prog.cellsOf 58 = 3 := by kernel_rfl
theorem co59 : Try.prog.cellsOf 59 = 1 := by kernel_rfl
theorem co61 : Try.prog.cellsOf 61 = 1 := by kernel_rfl
theorem co63 : Try.prog.cellsOf 63 = 4 := by kernel_rfl
theorem co65 : Try.prog.cellsOf 65 = 9 := by kernel_rfl
theorem co82 : Try.prog.cellsOf 82 = 1 := by kernel_rfl
theorem co109 : Try.prog.cellsOf 109 = 1 := by kernel_rfl
theorem co145 : Try.prog.cellsOf 145 = 7 := by kernel_rfl
theorem co156 : Try.prog.cellsOf 156 = 1 := by kernel_rfl
theorem co158 : Try.prog.cellsOf 158 = 11 := by kernel_rfl
theorem co198 : Try.prog.cellsOf 198 = 4 := by kernel_rfl
theorem hsupp : supp Try.prog [65, 9, 58, 61, 63, 3, 56, 59, 24, 158, 22, 109, 82, 156, 145, 198] = true := by kernel_rfl
theorem ent_Expr0 : ∀ (n : Nat) (row : List T), Row Try.prog n 58 row → ∃ x : Expr, row = G.cells false x ∧ G.fin x := by
    intro n
    induction n using Nat.strongRecOn with
    | ind n ih =>
    intro row h
    obtain ⟨hl, m, hmn, hf⟩ := row_struct Try.underlying58 h
    rw [co58] at hl
    match row, hl with
    | [r0, r1, r2], _ =>
    simp only [List.forall_mem_cons, List.not_mem_nil, false_imp_iff, implies_true, and_true, co3, co9, co56, List.drop_zero, List.drop_succ_cons, List.take_succ_cons, List.take_zero] at hf
    obtain ⟨h0, h1, h2⟩ := hf
    obtain ⟨x0, h0⟩ := row_int Try.underlying3 h0
    simp only [List.cons.injEq, and_true] at h0
    subst h0
    obtain ⟨x1, h1, f1⟩ := row_str Try.underlying9 h1
    change _ = [T.str x1] at h1
    simp only [List.cons.injEq, and_true] at h1
    subst h1
    obtain ⟨xs, h2, hl, hr⟩ := row_sl Try.underlying56 h2
    rw [co58] at h2
    obtain ⟨x2, rfl, f2⟩ := rows_of (α := Expr) (fun r hm => by obtain ⟨m', hm', h⟩ := hr r hm; exact ih m' (Nat.lt_trans hm' hmn) r h) hl
    simp only [List.cons.injEq, and_true] at h2
    subst h2
    exact ⟨⟨x0, x1, x2⟩, by rw [Expr.cells], (Expr.fin _).2 ⟨f1, f2⟩⟩
theorem ent_Expr {n : Nat} {row : List T} (h : Row Try.prog n 58 row) : ∃ x : Expr, row = G.cells false x ∧ G.fin x := ent_Expr0 n row h
theorem ent_IntS {n : Nat} {row : List T} (h : Row Try.prog n 109 row) : ∃ l : List Int, row = G.cells false l ∧ G.fin l := by
  obtain ⟨xs, rfl, hl, hr⟩ := row_sl Try.underlying109 h
  rw [co3]
  obtain ⟨l, rfl, hf⟩ := rows_of (α := Int) (fun r hm => by obtain ⟨m, _, h⟩ := hr r hm; exact row_int' Try.underlying3 h) hl
  exact ⟨l, rfl, hf⟩
theorem ent_StringS {n : Nat} {row : List T} (h : Row Try.prog n 82 row) : ∃ l : List ByteArray, row = G.cells false l ∧ G.fin l := by
  obtain ⟨xs, rfl, hl, hr⟩ := row_sl Try.underlying82 h
  rw [co9]
  obtain ⟨l, rfl, hf⟩ := rows_of (α := ByteArray) (fun r hm => by obtain ⟨m, _, h⟩ := hr r hm; exact row_str Try.underlying9 h) hl
  exact ⟨l, rfl, hf⟩
theorem ent_Binding {n : Nat} {row : List T} (h : Row Try.prog n 198 row) : ∃ x : Binding, row = G.cells false x ∧ G.fin x := by
    obtain ⟨hl, m, hmn, hf⟩ := row_struct Try.underlying198 h
    rw [co198] at hl
    match row, hl with
    | [r0, r1, r2, r3], _ =>
    simp only [List.forall_mem_cons, List.not_mem_nil, false_imp_iff, implies_true, and_true, co9, co58, List.drop_zero, List.drop_succ_cons, List.take_succ_cons, List.take_zero] at hf
    obtain ⟨h0, h1⟩ := hf
    obtain ⟨x0, h0, f0⟩ := row_str Try.underlying9 h0
    change _ = [T.str x0] at h0
    simp only [List.cons.injEq, and_true] at h0
    subst h0
    obtain ⟨x1, h1, f1⟩ := ent_Expr h1
    simp only [Expr.cells, List.cons.injEq, and_true] at h1
    obtain ⟨rfl, rfl, rfl⟩ := h1
    exact ⟨⟨x0, x1⟩, rfl, ⟨f0, f1⟩⟩
theorem ent_BindingS {n : Nat} {row : List T} (h : Row Try.prog n 156 row) : ∃ l : List Binding, row = G.cells false l ∧ G.fin l := by
  obtain ⟨xs, rfl, hl, hr⟩ := row_sl Try.underlying156 h
  rw [co198]
  obtain ⟨l, rfl, hf⟩ := rows_of (α := Binding) (fun r hm => by obtain ⟨m, _, h⟩ := hr r hm; exact ent_Binding h) hl
  exact ⟨l, rfl, hf⟩
theorem ent_Node {n : Nat} {row : List T} (h : Row Try.prog n 158 row) : ∃ x : Node, row = G.cells false x ∧ G.fin x := by
    obtain ⟨hl, m, hmn, hf⟩ := row_struct Try.underlying158 h
    rw [co158] at hl
    match row, hl with
    | [r0, r1, r2, r3, r4, r5, r6, r7, r8, r9, r10], _ =>
    simp only [List.forall_mem_cons, List.not_mem_nil, false_imp_iff, implies_true, and_true, co3, co9, co58, co82, co109, co156, List.drop_zero, List.drop_succ_cons, List.take_succ_cons, List.take_zero] at hf
    obtain ⟨h0, h1, h2, h3, h4, h5, h6, h7, h8⟩ := hf
    obtain ⟨x0, h0⟩ := row_int Try.underlying3 h0
    simp only [List.cons.injEq, and_true] at h0
    subst h0
    obtain ⟨x1, h1, f1⟩ := ent_Expr h1
    simp only [Expr.cells, List.cons.injEq, and_true] at h1
    obtain ⟨rfl, rfl, rfl⟩ := h1
    obtain ⟨x2, h2⟩ := row_int Try.underlying3 h2
    simp only [List.cons.injEq, and_true] at h2
    subst h2
    obtain ⟨x3, h3, f3⟩ := ent_IntS h3
    change _ = [T.sl false 1 (rows false x3)] at h3
    simp only [List.cons.injEq, and_true] at h3
    subst h3
    obtain ⟨x4, h4, f4⟩ := row_str Try.underlying9 h4
    change _ = [T.str x4] at h4
    simp only [List.cons.injEq, and_true] at h4
    subst h4
    obtain ⟨x5, h5, f5⟩ := row_str Try.underlying9 h5
    change _ = [T.str x5] at h5
    simp only [List.cons.injEq, and_true] at h5
    subst h5
    obtain ⟨x6, h6, f6⟩ := ent_StringS h6
    change _ = [T.sl false 1 (rows false x6)] at h6
    simp only [List.cons.injEq, and_true] at h6
    subst h6
    obtain ⟨x7, h7, f7⟩ := ent_BindingS h7
    change _ = [T.sl false 4 (rows false x7)] at h7
    simp only [List.cons.injEq, and_true] at h7
    subst h7
    obtain ⟨x8, h8⟩ := row_int Try.underlying3 h8
    simp only [List.cons.injEq, and_true] at h8
    subst h8
    exact ⟨⟨x0, x1, x2, x3, x4, x5, x6, x7, x8⟩, rfl, ⟨f1, f3, f4, f5, f6, f7⟩⟩
theorem ent_NodeS {n : Nat} {row : List T} (h : Row Try.prog n 59 row) : ∃ l : List Node, row = G.cells false l ∧ G.fin l := by
  obtain ⟨xs, rfl, hl, hr⟩ := row_sl Try.underlying59 h
  rw [co158]
  obtain ⟨l, rfl, hf⟩ := rows_of (α := Node) (fun r hm => by obtain ⟨m, _, h⟩ := hr r hm; exact ent_Node h) hl
  exact ⟨l, rfl, hf⟩
theorem ent_Tree {n : Nat} {row : List T} (h : Row Try.prog n 61 row) : ∃ x : Tree, row = G.cells false x ∧ G.fin x := by
    obtain ⟨hl, m, hmn, hf⟩ := row_struct Try.underlying61 h
    rw [co61] at hl
    match row, hl with
    | [r0], _ =>
    simp only [List.forall_mem_cons, List.not_mem_nil, false_imp_iff, implies_true, and_true, co59, List.drop_zero, List.drop_succ_cons, List.take_succ_cons, List.take_zero] at hf
    have h0 := hf
    obtain ⟨x0, h0, f0⟩ := ent_NodeS h0
    change _ = [T.sl false 11 (rows false x0)] at h0
    simp only [List.cons.injEq, and_true] at h0
    subst h0
    exact ⟨⟨x0⟩, rfl, f0⟩
theorem ent_Rule {n : Nat} {row : List T} (h : Row Try.prog n 145 row) : ∃ x : Rule, row = G.cells false x ∧ G.fin x := by
    obtain ⟨hl, m, hmn, hf⟩ := row_struct Try.underlying145 h
    rw [co145] at hl
    match row, hl with
    | [r0, r1, r2, r3, r4, r5, r6], _ =>
    simp only [List.forall_mem_cons, List.not_mem_nil, false_imp_iff, implies_true, and_true, co9, co58, co82, List.drop_zero, List.drop_succ_cons, List.take_succ_cons, List.take_zero] at hf
    obtain ⟨h0, h1, h2, h3, h4⟩ := hf
    obtain ⟨x0, h0, f0⟩ := row_str Try.underlying9 h0
    change _ = [T.str x0] at h0
    simp only [List.cons.injEq, and_true] at h0
    subst h0
    obtain ⟨x1, h1, f1⟩ := row_str Try.underlying9 h1
    change _ = [T.str x1] at h1
    simp only [List.cons.injEq, and_true] at h1
    subst h1
    obtain ⟨x2, h2, f2⟩ := ent_StringS h2
    change _ = [T.sl false 1 (rows false x2)] at h2
    simp only [List.cons.injEq, and_true] at h2
    subst h2
    obtain ⟨x3, h3, f3⟩ := ent_StringS h3
    change _ = [T.sl false 1 (rows false x3)] at h3
    simp only [List.cons.injEq, and_true] at h3
    subst h3
    obtain ⟨x4, h4, f4⟩ := ent_Expr h4
    simp only [Expr.cells, List.cons.injEq, and_true] at h4
    obtain ⟨rfl, rfl, rfl⟩ := h4
    exact ⟨⟨x0, x1, x2, x3, x4⟩, rfl, ⟨f0, f1, f2, f3, f4⟩⟩
theorem ent_RuleS {n : Nat} {row : List T} (h : Row Try.prog n 22 row) : ∃ l : List Rule, row = G.cells false l ∧ G.fin l := by
  obtain ⟨xs, rfl, hl, hr⟩ := row_sl Try.underlying22 h
  rw [co145]
  obtain ⟨l, rfl, hf⟩ := rows_of (α := Rule) (fun r hm => by obtain ⟨m, _, h⟩ := hr r hm; exact ent_Rule h) hl
  exact ⟨l, rfl, hf⟩
theorem ent_Program {n : Nat} {row : List T} (h : Row Try.prog n 24 row) : ∃ x : Program, row = G.cells false x ∧ G.fin x := by
    obtain ⟨hl, m, hmn, hf⟩ := row_struct Try.underlying24 h
    rw [co24] at hl
    match row, hl with
    | [r0], _ =>
    simp only [List.forall_mem_cons, List.not_mem_nil, false_imp_iff, implies_true, and_true, co22, List.drop_zero, List.drop_succ_cons, List.take_succ_cons, List.take_zero] at hf
    have h0 := hf
    obtain ⟨x0, h0, f0⟩ := ent_RuleS h0
    change _ = [T.sl false 7 (rows false x0)] at h0
    simp only [List.cons.injEq, and_true] at h0
    subst h0
    exact ⟨⟨x0⟩, rfl, f0⟩
theorem ent_Residual {n : Nat} {row : List T} (h : Row Try.prog n 63 row) : ∃ x : Residual, row = G.cells false x ∧ G.fin x := by
    obtain ⟨hl, m, hmn, hf⟩ := row_struct Try.underlying63 h
    rw [co63] at hl
    match row, hl with
    | [r0, r1, r2, r3], _ =>
    simp only [List.forall_mem_cons, List.not_mem_nil, false_imp_iff, implies_true, and_true, co24, co58, List.drop_zero, List.drop_succ_cons, List.take_succ_cons, List.take_zero] at hf
    obtain ⟨h0, h1⟩ := hf
    obtain ⟨x0, h0, f0⟩ := ent_Program h0
    simp only [Program.cells, List.cons.injEq, and_true] at h0
    subst h0
    obtain ⟨x1, h1, f1⟩ := ent_Expr h1
    simp only [Expr.cells, List.cons.injEq, and_true] at h1
    obtain ⟨rfl, rfl, rfl⟩ := h1
    exact ⟨⟨x0, x1⟩, rfl, ⟨f0, f1⟩⟩
theorem ent_Session {n : Nat} {row : List T} (h : Row Try.prog n 65 row) : ∃ x : Session, row = G.cells false x ∧ G.fin x := by
    obtain ⟨hl, m, hmn, hf⟩ := row_struct Try.underlying65 h
    rw [co65] at hl
    match row, hl with
    | [r0, r1, r2, r3, r4, r5, r6, r7, r8], _ =>
    simp only [List.forall_mem_cons, List.not_mem_nil, false_imp_iff, implies_true, and_true, co9, co58, co61, co63, List.drop_zero, List.drop_succ_cons, List.take_succ_cons, List.take_zero] at hf
    obtain ⟨h0, h1, h2, h3⟩ := hf
    obtain ⟨x0, h0, f0⟩ := row_str Try.underlying9 h0
    change _ = [T.str x0] at h0
    simp only [List.cons.injEq, and_true] at h0
    subst h0
    obtain ⟨x1, h1, f1⟩ := ent_Expr h1
    simp only [Expr.cells, List.cons.injEq, and_true] at h1
    obtain ⟨rfl, rfl, rfl⟩ := h1
    obtain ⟨x2, h2, f2⟩ := ent_Tree h2
    simp only [Tree.cells, List.cons.injEq, and_true] at h2
    subst h2
    obtain ⟨x3, h3, f3⟩ := ent_Residual h3
    simp only [Residual.cells, List.cons.injEq, and_true] at h3
    obtain ⟨rfl, rfl, rfl, rfl⟩ := h3
    exact ⟨⟨x0, x1, x2, x3⟩, rfl, ⟨f0, f1, f2, f3⟩⟩
theorem own : ownKnob Try.prog.godebug = none := by kernel_rfl
open Go.Proofs.Ytbnagcgfmlmgnaa Go.ChangeShapes Go.WideShapes Go.ChangeAt Go.RowKit in
theorem lifted (hlaw : ∀ (x0 : Session) (x1 : Session), G.fin x0 → G.fin x1 → Vx.Returns E 5 [.agg ((G.cells false x0).map C.t), .agg ((G.cells false x1).map C.t)] [] (.c (.t (.bool true))) [])
    (os : Os) (started : os.Started) (H : Type) (enc : TypeId × Value → H) :
    ReturnsInHanded {} Try.checked os 5 .any (Rows.fnExactEqualSessionSpec.pre6 enc Try.prog Try.f5 Rows.fnExactEqualSessionRow.domain false) (Rows.fnExactEqualSessionSpec.post enc Try.prog Try.f5 false true false false) := by
  refine returnsInHanded_of_change_sized (C := Try.checked) own started (by kernel_rfl) Try.func5
    (ChangeSpec.witness6 (enc := enc) (C := Try.checked) false ⟨#[], #[.agg #[.string ⟨#[]⟩, .int .i64 0, .string ⟨#[]⟩, .slice none 0 0, .slice none 0 0, .slice none 0 0, .int .i64 0, .string ⟨#[]⟩, .slice none 0 0], .agg #[.string ⟨#[]⟩, .int .i64 0, .string ⟨#[]⟩, .slice none 0 0, .slice none 0 0, .slice none 0 0, .int .i64 0, .string ⟨#[]⟩, .slice none 0 0]], []⟩ 40 (by kernel_rfl) (by kernel_rfl) (by kernel_rfl) (by kernel_rfl)) ?_
  intro W base args ds gs before hval0 hW hcnd hsz0 _
  have hval : ∀ (j : Nat) t v, Try.f5.params[j]? = some t → args[j]? = some v → Value.okWide Try.prog W .any base t v := hval0
  have hW' := hW
  obtain ⟨p, q, hA0, hV, rfl, hfz, hnd⟩ := hW
  have hA : DataW.TrodAll enc Try.prog W 0 (fun _ => true) true Try.f5.params.toList args.toList ds p := hA0
  rw [Try.params5] at hA hval
  obtain ⟨v0, vs0, d0, ds0, p0, q0, hargs, rfl, rfl, t0, s0⟩ := trodAll_cons hA
  obtain ⟨v1, vs1, d1, ds1, p1, q1, rfl, rfl, rfl, t1, s1⟩ := trodAll_cons s0
  obtain ⟨rfl, rfl, rfl⟩ := trodAll_nil s1
  obtain rfl : args = #[v0, v1] := by cases args; simp_all
  obtain ⟨rfl, rfl⟩ := trodVars_none hV
  obtain ⟨n0, row0, hr0, hl0, hq0⟩ := entry_sv hsupp (show 65 ∈ [65, 9, 58, 61, 63, 3, 56, 59, 24, 158, 22, 109, 82, 156, 145, 198] by decide) t0
  obtain ⟨x0, rfl, hf0⟩ := ent_Session hr0
  obtain ⟨cs0, hv0⟩ := okWide_agg Try.underlying65 (hval 0 65 v0 rfl rfl)
  have ha0 : ArgRep W (.agg ((G.cells false x0).map C.t)) v0 := ArgRep.struct hv0 hl0 hq0
  obtain ⟨n1, row1, hr1, hl1, hq1⟩ := entry_sv hsupp (show 65 ∈ [65, 9, 58, 61, 63, 3, 56, 59, 24, 158, 22, 109, 82, 156, 145, 198] by decide) t1
  obtain ⟨x1, rfl, hf1⟩ := ent_Session hr1
  obtain ⟨cs1, hv1⟩ := okWide_agg Try.underlying65 (hval 1 65 v1 rfl rfl)
  have ha1 : ArgRep W (.agg ((G.cells false x1).map C.t)) v1 := ArgRep.struct hv1 hl1 hq1
  refine (law_calls (hlaw x0 x1 hf0 hf1) (W := W) (vals := #[v0, v1]) rfl (fun n x hn => ?_)).mono fun e W' ⟨he, bel⟩ => ?_
  · match n, hn with
    | 0, hn => cases hn; exact ha0
    | 1, hn => cases hn; exact ha1
    | n + 2, hn => simp at hn
  subst he
  have hcar0 := Below.trod (enc := enc) (P := Try.prog) (t := 65) (by kernel_rfl) (by kernel_rfl) (of_decide_eq_true (by kernel_rfl)) (W := W) (W' := W') t0 bel (fun x hx => hA.lt x (List.mem_append.2 (.inl hx)))
  have hcar1 := Below.trod (enc := enc) (P := Try.prog) (t := 65) (by kernel_rfl) (by kernel_rfl) (of_decide_eq_true (by kernel_rfl)) (W := W) (W' := W') t1 bel (fun x hx => hA.lt x (List.mem_append.2 (.inr (List.mem_append.2 (.inl hx)))))
  exact ⟨_, rfl, _, _, _, [], _, [], hW', trodAll_mk1 (shut_bool Try.underlying4 _), (trodAll_cons_mk hcar0 (trodAll_cons_mk hcar1 trodAll_mk0)), rfl, bel.frame _, fun h => by cases h⟩
open Go.Proofs.Ytbnagcgfmlmgnaa in
theorem over (hlaw : ∀ (x0 : Session) (x1 : Session), G.fin x0 → G.fin x1 → Vx.Returns E 5 [.agg ((G.cells false x0).map C.t), .agg ((G.cells false x1).map C.t)] [] (.c (.t (.bool true))) []) : Rows.fnExactEqualSessionRow.holds Try.pinned (OpenSpec.ofChange Rows.fnExactEqualSessionSpec) :=
  OpenClaim.holds_of_wide 5 Try.f5 rfl rfl rfl rfl rfl rfl rfl ⟨rfl, rfl, rfl, rfl, rfl⟩ rfl rfl rfl rfl rfl (by kernel_rfl) Try.func5 (by kernel_rfl)
    (of_decide_eq_true (by kernel_rfl)) (by unfold Func.isWrapper; first | (rw [if_pos (by decide +kernel)]; kernel_rfl) | (rw [if_neg (by decide +kernel)]; exact ⟨rfl, rfl⟩))
    (fun os started H enc _ => lifted hlaw os started H enc)
open Go.Proofs.Ytbnagcgfmlmgnaa in
theorem proved_FnExactEqualSession : Rows.FnExactEqualSessionSaid := over c_lawS
end Vx.D.Ytbnagcgfmlmgnaa
namespace Go.Proofs.Ytbnagcgfmlmgnaa
/-- The row, under a short name, for the claim. -/
theorem fnExactEqualSession_holds : Rows.FnExactEqualSessionSaid := Vx.D.Ytbnagcgfmlmgnaa.proved_FnExactEqualSession
end Go.Proofs.Ytbnagcgfmlmgnaa
