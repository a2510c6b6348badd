import Derived.Test.YtbnagcgfmlmgnaaC6
/- What the functions that the law reaches compute, printed out of their code. No condition. -/
open Go Vx
namespace Vx.D.Ytbnagcgfmlmgnaa
open Go.Proofs
set_option maxRecDepth 100000
set_option maxHeartbeats 2000000
set_option linter.unusedVariables false
set_option linter.unusedSimpArgs false
noncomputable def b_s_IsBetter (a0 : Variant) (a1 : Variant) : Option Bool :=
  (match (nei a0.steps a1.steps) with | true => some ((lti a0.steps a1.steps)) | false => (match (nei a0.rules a1.rules) with | true => some ((lti a0.rules a1.rules)) | false => some ((lti a0.policy a1.policy))))
theorem w_s_IsBetter {rw : RW} (q : @rw = @rows) {a0 : Variant} {a1 : Variant} {r : Bool} (h : b_s_IsBetter a0 a1 = some r) : Returns E 40 [.agg [.t (.int .i64 a0.policy), .t (.sl false 7 (rw false a0.residual.program.rules)), .t (.int .i64 a0.residual.start.kind), .t (.str a0.residual.start.name), .t (.sl false 3 (rw false a0.residual.start.args)), .t (.int .i64 a0.rules), .t (.int .i64 a0.steps)], .agg [.t (.int .i64 a1.policy), .t (.sl false 7 (rw false a1.residual.program.rules)), .t (.int .i64 a1.residual.start.kind), .t (.str a1.residual.start.name), .t (.sl false 3 (rw false a1.residual.start.args)), .t (.int .i64 a1.rules), .t (.int .i64 a1.steps)]] [] (.c (.t (.bool r))) [] := by
  unfold b_s_IsBetter at h
  obtain ⟨a0_0, ⟨⟨a0_1⟩, ⟨a0_2, a0_3, a0_4⟩⟩, a0_5, a0_6⟩ := a0
  obtain ⟨a1_0, ⟨⟨a1_1⟩, ⟨a1_2, a1_3, a1_4⟩⟩, a1_5, a1_6⟩ := a1
  dsimp only at h ⊢
  refine fn_walk tb ([], []) ([0, 1, 2, 3, 4, 9, 19], []) (fn := Try.f40) hmix htb Try.func40 rfl (by kernel_rfl) (by kernel_rfl) (Nat.le_of_ble_eq_true (by kernel_rfl)) rfl ?_
  intro ar cm sc bc nt ng ln sz tn idx get set vw rep nf dv ct wr bt bs us ur ap fl on mi mh ms mo mx mn R rz hπ hR hr
  have F := PF.of hπ
  try simp only [F.mlti, F.mnei] at h
  cbv
  split
  · rename_i c1
    try rw [c1]
    rw [c1] at h
    try dsimp only at h
    cbv
    cases h
    first | exact ⟨hr.symm, trivial⟩ | (subst q; exact ⟨hr.symm, trivial⟩)
  rename_i c1
  try rw [c1]
  rw [c1] at h
  try dsimp only at h
  cbv
  split
  · rename_i c2
    try rw [c2]
    rw [c2] at h
    try dsimp only at h
    cbv
    cases h
    first | exact ⟨hr.symm, trivial⟩ | (subst q; exact ⟨hr.symm, trivial⟩)
  rename_i c2
  try rw [c2]
  rw [c2] at h
  try dsimp only at h
  cbv
  cases h
  first | exact ⟨hr.symm, trivial⟩ | (subst q; exact ⟨hr.symm, trivial⟩)
noncomputable def b_s_l5Rules (a0 : Rule) : Option Rule :=
  (app ([] : List ByteArray) a0.vars).bind fun l1 => (app ([] : List ByteArray) a0.params).bind fun l3 => (k_cp (a0.body : Expr)).bind fun r6 => some (⟨a0.name, a0.con, l1, l3, r6⟩)
theorem w_s_l5Rules {rw : RW} (q : @rw = @rows) {a0 : Rule} {r : Rule} (h : b_s_l5Rules a0 = some r) : Returns E 136 [.agg [.t (.str a0.name), .t (.str a0.con), .t (.sl false 1 (rw false a0.vars)), .t (.sl false 1 (rw false a0.params)), .t (.int .i64 a0.body.kind), .t (.str a0.body.name), .t (.sl false 3 (rw false a0.body.args))]] [] (.agg [.t (.str r.name), .t (.str r.con), .t (.sl true 1 (rw false r.vars)), .t (.sl true 1 (rw false r.params)), .t (.int .i64 r.body.kind), .t (.str r.body.name), .t (.sl true 3 (rw true r.body.args))]) [] := by
  unfold b_s_l5Rules at h
  obtain ⟨a0_0, a0_1, a0_2, a0_3, ⟨a0_4, a0_5, a0_6⟩⟩ := a0
  dsimp only at h ⊢
  refine fn_walk tb ([], []) ([0, 1, 2], []) (fn := Try.f136) hmix htb Try.func136 rfl (by kernel_rfl) (by kernel_rfl) (Nat.le_of_ble_eq_true (by kernel_rfl)) rfl ?_
  intro ar cm sc bc nt ng ln sz tn idx get set vw rep nf dv ct wr bt bs us ur ap fl on mi mh ms mo mx mn R rz hπ hR hr
  have F := PF.of hπ
  cbv
  rw [on_Str F q]
  cbv
  obtain ⟨l1, h2, h⟩ := bd h
  rw [F.rap0 q h2]
  cbv
  rw [on_Str F q]
  cbv
  obtain ⟨l3, h4, h⟩ := bd h
  rw [F.rap0 q h4]
  cbv
  obtain ⟨⟨r6_1, r6_2, r6_3⟩, h5, h⟩ := bd h
  try dsimp only at h
  have vh5 := cc_s_l3Copy q h5
  dsimp only at vh5
  refine ⟨_, ⟨(hR ▸ vh5 : R _ _ _ _ _), rfl⟩, ?_⟩
  cbv
  cases h
  first | exact ⟨hr.symm, trivial⟩ | (subst q; exact ⟨hr.symm, trivial⟩)
noncomputable def b_s_l5Copy (a0 : Program) : Option Program :=
  (loopC (σ := Int × List Rule) (ρ := (List Rule)) (fun s => match s with | (v7, v8) => (match (lti v7 (len a0.rules)) with | true => (nth a0.rules v7).bind fun x18 => (b_s_l5Rules (x18 : Rule)).bind fun r21 => (push v8 (r21 : Rule)).bind fun l22 => some (.inl ((addw v7 1), l22)) | false => some (.inr (v8)))) (0, [])).bind (fun p25 => some (⟨p25⟩))
theorem w_s_l5Copy {rw : RW} (q : @rw = @rows) {a0 : Program} {r : Program} (h : b_s_l5Copy a0 = some r) : Returns E 113 [.agg [.t (.sl false 7 (rw false a0.rules))]] [] (.agg [.t (.sl true 7 (rw true r.rules))]) [] := by
  unfold b_s_l5Copy at h
  obtain ⟨a0_0⟩ := a0
  dsimp only at h ⊢
  refine fn_walk tb ([], []) ([0, 1, 2, 3, 4, 10], [(2, .obj 1003, 0, .own 7)]) (fn := Try.f113) hmix htb Try.func113 rfl (by kernel_rfl) (by kernel_rfl) (Nat.le_of_ble_eq_true (by kernel_rfl)) rfl ?_
  intro ar cm sc bc nt ng ln sz tn idx get set vw rep nf dv ct wr bt bs us ur ap fl on mi mh ms mo mx mn R rz hπ hR hr
  have F := PF.of hπ
  try simp only [F.maddw, F.mlen q, F.mlti] at h
  cbv
  obtain ⟨rr1, hl1, h⟩ := bd h
  refine aloop_C hl1 [1, 2, 3, 4] [1001, 1002, 1003] (fun (s : Int × List Rule) => match s with | (v7, v8) => (⟨[(1, .c (.ptr ⟨.obj 1001, 0, []⟩)), (2, .c (.ptr ⟨.obj 1002, 0, []⟩)), (3, .c (.ptr ⟨.obj 1003, 0, []⟩)), (4, .c (.t (.int .i64 v7)))], [], [(1001, [.t (.sl false 7 (rw false a0_0))]), (1002, [.t .nil]), (1003, [.t (.sl true 7 (rw true v8))])], [], [], []⟩ : St)) (by first | rfl | (subst q; rfl)) ?_
  rintro ⟨v7, v8⟩ xx1 h16 hx1 K1 hn1 hq1 ht1
  try dsimp only at h16
  cbv
  split
  rotate_left
  · rename_i c17
    try rw [c17]
    rw [c17] at h16
    try dsimp only at h16
    cbv
    cases h16
    have e1 := hx1 _ rfl
    subst e1
    try dsimp only at h
    refine hq1 _ _ ?_
    cbv
    cases h
    first | exact ⟨hr.symm, trivial⟩ | (subst q; exact ⟨hr.symm, trivial⟩)
  rename_i c17
  try rw [c17]
  rw [c17] at h16
  try dsimp only at h16
  cbv
  obtain ⟨⟨x18_0, x18_1, x18_2, x18_3, ⟨x18_4, x18_5, x18_6⟩⟩, h19, h16⟩ := bd h16
  try dsimp only at h16
  rw [(ix_Rule F q h19).1]
  cbv
  obtain ⟨⟨r21_1, r21_2, r21_3, r21_4, ⟨r21_5, r21_6, r21_7⟩⟩, h20, h16⟩ := bd h16
  try dsimp only at h16
  have vh20 := w_s_l5Rules q h20
  dsimp only at vh20
  refine ⟨_, ⟨(hR ▸ vh20 : R _ _ _ _ _), rfl⟩, ?_⟩
  cbv
  rw [F.on]
  cbv
  obtain ⟨l22, h23, h16⟩ := bd h16
  rw [pu_Rule F q h23]
  cbv
  cases h16
  exact hn1 _ _ rfl (by first | rfl | (subst q; rfl))
noncomputable def b_s_l23Copy (a0 : Residual) : Option Residual :=
  (b_s_l5Copy (a0.program : Program)).bind fun r2 => (k_cp (a0.start : Expr)).bind fun r4 => some (⟨r2, r4⟩)
theorem w_s_l23Copy {rw : RW} (q : @rw = @rows) {a0 : Residual} {r : Residual} (h : b_s_l23Copy a0 = some r) : Returns E 81 [.agg [.t (.sl false 7 (rw false a0.program.rules)), .t (.int .i64 a0.start.kind), .t (.str a0.start.name), .t (.sl false 3 (rw false a0.start.args))]] [] (.agg [.t (.sl true 7 (rw true r.program.rules)), .t (.int .i64 r.start.kind), .t (.str r.start.name), .t (.sl true 3 (rw true r.start.args))]) [] := by
  unfold b_s_l23Copy at h
  obtain ⟨⟨a0_0⟩, ⟨a0_1, a0_2, a0_3⟩⟩ := a0
  dsimp only at h ⊢
  refine fn_walk tb ([], []) ([0, 1, 2], []) (fn := Try.f81) hmix htb Try.func81 rfl (by kernel_rfl) (by kernel_rfl) (Nat.le_of_ble_eq_true (by kernel_rfl)) rfl ?_
  intro ar cm sc bc nt ng ln sz tn idx get set vw rep nf dv ct wr bt bs us ur ap fl on mi mh ms mo mx mn R rz hπ hR hr
  have F := PF.of hπ
  cbv
  obtain ⟨⟨r2_1⟩, h1, h⟩ := bd h
  try dsimp only at h
  have vh1 := w_s_l5Copy q h1
  dsimp only at vh1
  refine ⟨_, ⟨(hR ▸ vh1 : R _ _ _ _ _), rfl⟩, ?_⟩
  cbv
  obtain ⟨⟨r4_1, r4_2, r4_3⟩, h3, h⟩ := bd h
  try dsimp only at h
  have vh3 := cc_s_l3Copy q h3
  dsimp only at vh3
  refine ⟨_, ⟨(hR ▸ vh3 : R _ _ _ _ _), rfl⟩, ?_⟩
  cbv
  cases h
  first | exact ⟨hr.symm, trivial⟩ | (subst q; exact ⟨hr.symm, trivial⟩)
noncomputable def b_s_l28Copy (a0 : Variant) : Option Variant :=
  (b_s_l23Copy (a0.residual : Residual)).bind fun r2 => some (⟨a0.policy, r2, a0.rules, a0.steps⟩)
theorem w_s_l28Copy {rw : RW} (q : @rw = @rows) {a0 : Variant} {r : Variant} (h : b_s_l28Copy a0 = some r) : Returns E 41 [.agg [.t (.int .i64 a0.policy), .t (.sl false 7 (rw false a0.residual.program.rules)), .t (.int .i64 a0.residual.start.kind), .t (.str a0.residual.start.name), .t (.sl false 3 (rw false a0.residual.start.args)), .t (.int .i64 a0.rules), .t (.int .i64 a0.steps)]] [] (.agg [.t (.int .i64 r.policy), .t (.sl true 7 (rw true r.residual.program.rules)), .t (.int .i64 r.residual.start.kind), .t (.str r.residual.start.name), .t (.sl true 3 (rw true r.residual.start.args)), .t (.int .i64 r.rules), .t (.int .i64 r.steps)]) [] := by
  unfold b_s_l28Copy at h
  obtain ⟨a0_0, ⟨⟨a0_1⟩, ⟨a0_2, a0_3, a0_4⟩⟩, a0_5, a0_6⟩ := a0
  dsimp only at h ⊢
  refine fn_walk tb ([], []) ([0, 1, 2], []) (fn := Try.f41) hmix htb Try.func41 rfl (by kernel_rfl) (by kernel_rfl) (Nat.le_of_ble_eq_true (by kernel_rfl)) rfl ?_
  intro ar cm sc bc nt ng ln sz tn idx get set vw rep nf dv ct wr bt bs us ur ap fl on mi mh ms mo mx mn R rz hπ hR hr
  have F := PF.of hπ
  cbv
  obtain ⟨⟨⟨r2_1⟩, ⟨r2_2, r2_3, r2_4⟩⟩, h1, h⟩ := bd h
  try dsimp only at h
  have vh1 := w_s_l23Copy q h1
  dsimp only at vh1
  refine ⟨_, ⟨(hR ▸ vh1 : R _ _ _ _ _), rfl⟩, ?_⟩
  cbv
  cases h
  first | exact ⟨hr.symm, trivial⟩ | (subst q; exact ⟨hr.symm, trivial⟩)
noncomputable def b_s_BestVariant (a0 : List Variant) : Option (Variant × Bool) :=
  (match (eqi (len a0) 0) with | true => some ((⟨0, ⟨⟨[]⟩, ⟨0, (ByteArray.mk #[]), []⟩⟩, 0, 0⟩, false)) | false => (loopC (σ := Int × Int) (ρ := (Int)) (fun s => match s with | (v11, v20) => (match (lti v11 (len a0)) with | true => (nth a0 v11).bind fun x31 => (nth a0 v20).bind fun x33 => (b_s_IsBetter (x31 : Variant) (x33 : Variant)).bind fun r36 => (match r36 with | true => some (.inl ((addw v11 1), v11)) | false => some (.inl ((addw v11 1), v20))) | false => some (.inr (v20)))) (0, 0)).bind (fun p38 => (nth a0 p38).bind fun x40 => (b_s_l28Copy (x40 : Variant)).bind fun r43 => some ((r43, true))))
theorem w_s_BestVariant {rw : RW} (q : @rw = @rows) {a0 : List Variant} {r : Variant × Bool} (h : b_s_BestVariant a0 = some r) : Returns E 13 [.c (.t (.sl false 7 (rw false a0)))] [] (.tup [.agg [.t (.int .i64 r.1.policy), .t (.sl true 7 (rw true r.1.residual.program.rules)), .t (.int .i64 r.1.residual.start.kind), .t (.str r.1.residual.start.name), .t (.sl true 3 (rw true r.1.residual.start.args)), .t (.int .i64 r.1.rules), .t (.int .i64 r.1.steps)], .c (.t (.bool r.2))]) [] := by
  unfold b_s_BestVariant at h
  refine fn_walk tb ([], []) ([0, 2, 3, 4, 5, 8, 13, 24], [(2, .obj 1002, 1, .own 7), (2, .obj 1002, 4, .own 3)]) (fn := Try.f13) hmix htb Try.func13 rfl (by kernel_rfl) (by kernel_rfl) (Nat.le_of_ble_eq_true (by kernel_rfl)) rfl ?_
  intro ar cm sc bc nt ng ln sz tn idx get set vw rep nf dv ct wr bt bs us ur ap fl on mi mh ms mo mx mn R rz hπ hR hr
  have F := PF.of hπ
  try simp only [F.maddw, F.meqi, F.mlen q, F.mlti] at h
  cbv
  split
  · rename_i c1
    try rw [c1]
    rw [c1] at h
    try dsimp only at h
    cbv
    cases h
    first | exact ⟨hr.symm, trivial⟩ | (subst q; exact ⟨hr.symm, trivial⟩)
  rename_i c1
  try rw [c1]
  rw [c1] at h
  try dsimp only at h
  cbv
  obtain ⟨rr2, hl2, h⟩ := bd h
  refine aloop_C hl2 [0, 2, 3, 4, 5] [1002] (fun (s : Int × Int) => match s with | (v11, v20) => (⟨[(0, .c (.t (.sl false 7 (rw false a0)))), (2, .c (.ptr ⟨.obj 1002, 0, []⟩)), (3, .c (.t (.bool false))), (4, .c (.t (.int .i64 v20))), (5, .c (.t (.int .i64 v11)))], [], [(1002, [.t (.int .i64 0), .t .nil, .t (.int .i64 0), .t (.str (ByteArray.mk #[])), .t .nil, .t (.int .i64 0), .t (.int .i64 0)])], [], [], []⟩ : St)) (by first | rfl | (subst q; rfl)) ?_
  rintro ⟨v11, v20⟩ xx2 h29 hx2 K2 hn2 hq2 ht2
  try dsimp only at h29
  cbv
  split
  rotate_left
  · rename_i c30
    try rw [c30]
    rw [c30] at h29
    try dsimp only at h29
    cbv
    cases h29
    have e2 := hx2 _ rfl
    subst e2
    try dsimp only at h
    refine hq2 _ _ ?_
    cbv
    obtain ⟨⟨x40_0, ⟨⟨x40_1⟩, ⟨x40_2, x40_3, x40_4⟩⟩, x40_5, x40_6⟩, h41, h⟩ := bd h
    try dsimp only at h
    rw [(ix_Variant F q h41).1]
    cbv
    obtain ⟨⟨r43_1, ⟨⟨r43_2⟩, ⟨r43_3, r43_4, r43_5⟩⟩, r43_6, r43_7⟩, h42, h⟩ := bd h
    try dsimp only at h
    have vh42 := w_s_l28Copy q h42
    dsimp only at vh42
    refine ⟨_, ⟨(hR ▸ vh42 : R _ _ _ _ _), rfl⟩, ?_⟩
    cbv
    cases h
    first | exact ⟨hr.symm, trivial⟩ | (subst q; exact ⟨hr.symm, trivial⟩)
  rename_i c30
  try rw [c30]
  rw [c30] at h29
  try dsimp only at h29
  cbv
  obtain ⟨⟨x31_0, ⟨⟨x31_1⟩, ⟨x31_2, x31_3, x31_4⟩⟩, x31_5, x31_6⟩, h32, h29⟩ := bd h29
  try dsimp only at h29
  rw [(ix_Variant F q h32).1]
  cbv
  obtain ⟨⟨x33_0, ⟨⟨x33_1⟩, ⟨x33_2, x33_3, x33_4⟩⟩, x33_5, x33_6⟩, h34, h29⟩ := bd h29
  try dsimp only at h29
  rw [(ix_Variant F q h34).1]
  cbv
  obtain ⟨r36_1, h35, h29⟩ := bd h29
  try dsimp only at h29
  refine ⟨_, ⟨(hR ▸ w_s_IsBetter q h35 : R _ _ _ _ _), rfl⟩, ?_⟩
  cbv
  split
  · try dsimp only at h29
    cbv
    cases h29
    exact hn2 _ _ rfl (by first | rfl | (subst q; rfl))
  try dsimp only at h29
  cbv
  cases h29
  exact hn2 _ _ rfl (by first | rfl | (subst q; rfl))
noncomputable def b_i_IsBetter (a0 : Variant) (a1 : Variant) : Option Bool :=
  (match (nei a0.steps a1.steps) with | true => some ((lti a0.steps a1.steps)) | false => (match (nei a0.rules a1.rules) with | true => some ((lti a0.rules a1.rules)) | false => some ((lti a0.policy a1.policy))))
theorem w_i_IsBetter {rw : RW} (q : @rw = @rows) {a0 : Variant} {a1 : Variant} {r : Bool} (h : b_i_IsBetter a0 a1 = some r) : Returns E 43 [.agg [.t (.int .i64 a0.policy), .t (.sl false 7 (rw false a0.residual.program.rules)), .t (.int .i64 a0.residual.start.kind), .t (.str a0.residual.start.name), .t (.sl false 3 (rw false a0.residual.start.args)), .t (.int .i64 a0.rules), .t (.int .i64 a0.steps)], .agg [.t (.int .i64 a1.policy), .t (.sl false 7 (rw false a1.residual.program.rules)), .t (.int .i64 a1.residual.start.kind), .t (.str a1.residual.start.name), .t (.sl false 3 (rw false a1.residual.start.args)), .t (.int .i64 a1.rules), .t (.int .i64 a1.steps)]] [] (.c (.t (.bool r))) [] := by
  unfold b_i_IsBetter at h
  obtain ⟨a0_0, ⟨⟨a0_1⟩, ⟨a0_2, a0_3, a0_4⟩⟩, a0_5, a0_6⟩ := a0
  obtain ⟨a1_0, ⟨⟨a1_1⟩, ⟨a1_2, a1_3, a1_4⟩⟩, a1_5, a1_6⟩ := a1
  dsimp only at h ⊢
  refine fn_walk tb ([], []) ([0, 1, 2, 3, 4, 9, 19], []) (fn := Try.f43) hmix htb Try.func43 rfl (by kernel_rfl) (by kernel_rfl) (Nat.le_of_ble_eq_true (by kernel_rfl)) rfl ?_
  intro ar cm sc bc nt ng ln sz tn idx get set vw rep nf dv ct wr bt bs us ur ap fl on mi mh ms mo mx mn R rz hπ hR hr
  have F := PF.of hπ
  try simp only [F.mlti, F.mnei] at h
  cbv
  split
  · rename_i c1
    try rw [c1]
    rw [c1] at h
    try dsimp only at h
    cbv
    cases h
    first | exact ⟨hr.symm, trivial⟩ | (subst q; exact ⟨hr.symm, trivial⟩)
  rename_i c1
  try rw [c1]
  rw [c1] at h
  try dsimp only at h
  cbv
  split
  · rename_i c2
    try rw [c2]
    rw [c2] at h
    try dsimp only at h
    cbv
    cases h
    first | exact ⟨hr.symm, trivial⟩ | (subst q; exact ⟨hr.symm, trivial⟩)
  rename_i c2
  try rw [c2]
  rw [c2] at h
  try dsimp only at h
  cbv
  cases h
  first | exact ⟨hr.symm, trivial⟩ | (subst q; exact ⟨hr.symm, trivial⟩)
noncomputable def b_i_copyRule (a0 : Rule) : Option Rule :=
  (k_CloneStr a0.vars).bind fun r2 => (k_CloneStr a0.params).bind fun r4 => (k_cp (a0.body : Expr)).bind fun r6 => some (⟨a0.name, a0.con, r2, r4, r6⟩)
theorem w_i_copyRule {rw : RW} (q : @rw = @rows) {a0 : Rule} {r : Rule} (h : b_i_copyRule a0 = some r) : Returns E 115 [.agg [.t (.str a0.name), .t (.str a0.con), .t (.sl false 1 (rw false a0.vars)), .t (.sl false 1 (rw false a0.params)), .t (.int .i64 a0.body.kind), .t (.str a0.body.name), .t (.sl false 3 (rw false a0.body.args))]] [] (.agg [.t (.str r.name), .t (.str r.con), .t (.sl true 1 (rw false r.vars)), .t (.sl true 1 (rw false r.params)), .t (.int .i64 r.body.kind), .t (.str r.body.name), .t (.sl true 3 (rw true r.body.args))]) [] := by
  unfold b_i_copyRule at h
  obtain ⟨a0_0, a0_1, a0_2, a0_3, ⟨a0_4, a0_5, a0_6⟩⟩ := a0
  dsimp only at h ⊢
  refine fn_walk tb ([], []) ([0, 1, 2], []) (fn := Try.f115) hmix htb Try.func115 rfl (by kernel_rfl) (by kernel_rfl) (Nat.le_of_ble_eq_true (by kernel_rfl)) rfl ?_
  intro ar cm sc bc nt ng ln sz tn idx get set vw rep nf dv ct wr bt bs us ur ap fl on mi mh ms mo mx mn R rz hπ hR hr
  have F := PF.of hπ
  cbv
  obtain ⟨r2_1, h1, h⟩ := bd h
  try dsimp only at h
  refine ⟨_, ⟨(hR ▸ cc_CloneStr q h1 : R _ _ _ _ _), rfl⟩, ?_⟩
  cbv
  obtain ⟨r4_1, h3, h⟩ := bd h
  try dsimp only at h
  refine ⟨_, ⟨(hR ▸ cc_CloneStr q h3 : R _ _ _ _ _), rfl⟩, ?_⟩
  cbv
  obtain ⟨⟨r6_1, r6_2, r6_3⟩, h5, h⟩ := bd h
  try dsimp only at h
  have vh5 := cc_i_copyExpr q h5
  dsimp only at vh5
  refine ⟨_, ⟨(hR ▸ vh5 : R _ _ _ _ _), rfl⟩, ?_⟩
  cbv
  cases h
  first | exact ⟨hr.symm, trivial⟩ | (subst q; exact ⟨hr.symm, trivial⟩)
noncomputable def b_i_copyProgram (a0 : Program) : Option Program :=
  (loopC (σ := Int × List Rule) (ρ := (List Rule)) (fun s => match s with | (v7, v8) => (match (lti v7 (len a0.rules)) with | true => (nth a0.rules v7).bind fun x18 => (b_i_copyRule (x18 : Rule)).bind fun r21 => (push v8 (r21 : Rule)).bind fun l22 => some (.inl ((addw v7 1), l22)) | false => some (.inr (v8)))) (0, [])).bind (fun p25 => some (⟨p25⟩))
theorem w_i_copyProgram {rw : RW} (q : @rw = @rows) {a0 : Program} {r : Program} (h : b_i_copyProgram a0 = some r) : Returns E 82 [.agg [.t (.sl false 7 (rw false a0.rules))]] [] (.agg [.t (.sl true 7 (rw true r.rules))]) [] := by
  unfold b_i_copyProgram at h
  obtain ⟨a0_0⟩ := a0
  dsimp only at h ⊢
  refine fn_walk tb ([], []) ([0, 1, 2, 3, 5, 7, 8, 9, 10], [(2, .obj 1003, 0, .own 7)]) (fn := Try.f82) hmix htb Try.func82 rfl (by kernel_rfl) (by kernel_rfl) (Nat.le_of_ble_eq_true (by kernel_rfl)) rfl ?_
  intro ar cm sc bc nt ng ln sz tn idx get set vw rep nf dv ct wr bt bs us ur ap fl on mi mh ms mo mx mn R rz hπ hR hr
  have F := PF.of hπ
  try simp only [F.maddw, F.mlen q, F.mlti] at h
  cbv
  obtain ⟨rr1, hl1, h⟩ := bd h
  refine aloop_C hl1 [2, 3, 7, 8, 9] [1001, 1002, 1003] (fun (s : Int × List Rule) => match s with | (v7, v8) => (⟨[(2, .c (.ptr ⟨.obj 1002, 0, []⟩)), (3, .c (.ptr ⟨.obj 1003, 0, []⟩)), (7, .c (.t (.sl false 7 (rw false a0_0)))), (8, .c (.t (.int .i64 (ln (rw false a0_0))))), (9, .c (.t (.int .i64 v7)))], [], [(1001, [.t (.sl false 7 (rw false a0_0))]), (1002, [.t .nil]), (1003, [.t (.sl true 7 (rw true v8))])], [], [], []⟩ : St)) (by first | rfl | (subst q; rfl)) ?_
  rintro ⟨v7, v8⟩ xx1 h16 hx1 K1 hn1 hq1 ht1
  try dsimp only at h16
  cbv
  split
  rotate_left
  · rename_i c17
    try rw [c17]
    rw [c17] at h16
    try dsimp only at h16
    cbv
    cases h16
    have e1 := hx1 _ rfl
    subst e1
    try dsimp only at h
    refine hq1 _ _ ?_
    cbv
    cases h
    first | exact ⟨hr.symm, trivial⟩ | (subst q; exact ⟨hr.symm, trivial⟩)
  rename_i c17
  try rw [c17]
  rw [c17] at h16
  try dsimp only at h16
  cbv
  obtain ⟨⟨x18_0, x18_1, x18_2, x18_3, ⟨x18_4, x18_5, x18_6⟩⟩, h19, h16⟩ := bd h16
  try dsimp only at h16
  rw [(ix_Rule F q h19).1]
  cbv
  obtain ⟨⟨r21_1, r21_2, r21_3, r21_4, ⟨r21_5, r21_6, r21_7⟩⟩, h20, h16⟩ := bd h16
  try dsimp only at h16
  have vh20 := w_i_copyRule q h20
  dsimp only at vh20
  refine ⟨_, ⟨(hR ▸ vh20 : R _ _ _ _ _), rfl⟩, ?_⟩
  cbv
  rw [F.on]
  cbv
  obtain ⟨l22, h23, h16⟩ := bd h16
  rw [pu_Rule F q h23]
  cbv
  cases h16
  exact hn1 _ _ rfl (by first | rfl | (subst q; rfl))
noncomputable def b_i_copyResidual (a0 : Residual) : Option Residual :=
  (b_i_copyProgram (a0.program : Program)).bind fun r2 => (k_cp (a0.start : Expr)).bind fun r4 => some (⟨r2, r4⟩)
theorem w_i_copyResidual {rw : RW} (q : @rw = @rows) {a0 : Residual} {r : Residual} (h : b_i_copyResidual a0 = some r) : Returns E 44 [.agg [.t (.sl false 7 (rw false a0.program.rules)), .t (.int .i64 a0.start.kind), .t (.str a0.start.name), .t (.sl false 3 (rw false a0.start.args))]] [] (.agg [.t (.sl true 7 (rw true r.program.rules)), .t (.int .i64 r.start.kind), .t (.str r.start.name), .t (.sl true 3 (rw true r.start.args))]) [] := by
  unfold b_i_copyResidual at h
  obtain ⟨⟨a0_0⟩, ⟨a0_1, a0_2, a0_3⟩⟩ := a0
  dsimp only at h ⊢
  refine fn_walk tb ([], []) ([0, 1, 2], []) (fn := Try.f44) hmix htb Try.func44 rfl (by kernel_rfl) (by kernel_rfl) (Nat.le_of_ble_eq_true (by kernel_rfl)) rfl ?_
  intro ar cm sc bc nt ng ln sz tn idx get set vw rep nf dv ct wr bt bs us ur ap fl on mi mh ms mo mx mn R rz hπ hR hr
  have F := PF.of hπ
  cbv
  obtain ⟨⟨r2_1⟩, h1, h⟩ := bd h
  try dsimp only at h
  have vh1 := w_i_copyProgram q h1
  dsimp only at vh1
  refine ⟨_, ⟨(hR ▸ vh1 : R _ _ _ _ _), rfl⟩, ?_⟩
  cbv
  obtain ⟨⟨r4_1, r4_2, r4_3⟩, h3, h⟩ := bd h
  try dsimp only at h
  have vh3 := cc_i_copyExpr q h3
  dsimp only at vh3
  refine ⟨_, ⟨(hR ▸ vh3 : R _ _ _ _ _), rfl⟩, ?_⟩
  cbv
  cases h
  first | exact ⟨hr.symm, trivial⟩ | (subst q; exact ⟨hr.symm, trivial⟩)
noncomputable def b_i_BestVariant (a0 : List Variant) : Option (Variant × Bool) :=
  (loopC (σ := Int × Int) (ρ := (Int)) (fun s => match s with | (v11, v12) => (match (lti v12 (len a0)) with | true => (nth a0 v12).bind fun x24 => (match (lti v11 0) with | true => some (.inl (v12, (addw v12 1))) | false => (nth a0 v11).bind fun x27 => (b_i_IsBetter (x24 : Variant) (x27 : Variant)).bind fun r30 => (match r30 with | true => some (.inl (v12, (addw v12 1))) | false => some (.inl (v11, (addw v12 1))))) | false => some (.inr (v11)))) ((-1), 0)).bind (fun p32 => (match (lti p32 0) with | true => some ((⟨0, ⟨⟨[]⟩, ⟨0, (ByteArray.mk #[]), []⟩⟩, 0, 0⟩, false)) | false => (nth a0 p32).bind fun x35 => (b_i_copyResidual (x35.residual : Residual)).bind fun r38 => some ((⟨x35.policy, r38, x35.rules, x35.steps⟩, true))))
theorem w_i_BestVariant {rw : RW} (q : @rw = @rows) {a0 : List Variant} {r : Variant × Bool} (h : b_i_BestVariant a0 = some r) : Returns E 15 [.c (.t (.sl false 7 (rw false a0)))] [] (.tup [.agg [.t (.int .i64 r.1.policy), .t (.sl true 7 (rw true r.1.residual.program.rules)), .t (.int .i64 r.1.residual.start.kind), .t (.str r.1.residual.start.name), .t (.sl true 3 (rw true r.1.residual.start.args)), .t (.int .i64 r.1.rules), .t (.int .i64 r.1.steps)], .c (.t (.bool r.2))]) [] := by
  unfold b_i_BestVariant at h
  refine fn_walk tb ([], []) ([0, 2, 3, 4, 5, 6, 7, 8, 9, 10, 11, 24, 28], [(9, .obj 1002, 1, .own 7), (9, .obj 1002, 4, .own 3)]) (fn := Try.f15) hmix htb Try.func15 rfl (by kernel_rfl) (by kernel_rfl) (Nat.le_of_ble_eq_true (by kernel_rfl)) rfl ?_
  intro ar cm sc bc nt ng ln sz tn idx get set vw rep nf dv ct wr bt bs us ur ap fl on mi mh ms mo mx mn R rz hπ hR hr
  have F := PF.of hπ
  try simp only [F.maddw, F.mlen q, F.mlti] at h
  cbv
  obtain ⟨rr1, hl1, h⟩ := bd h
  refine aloop_C hl1 [0, 2, 3, 4, 8, 9, 10] [1002] (fun (s : Int × Int) => match s with | (v11, v12) => (⟨[(0, .c (.t (.sl false 7 (rw false a0)))), (2, .c (.ptr ⟨.obj 1002, 0, []⟩)), (3, .c (.t (.bool false))), (4, .c (.t (.int .i64 v11))), (8, .c (.t (.sl false 7 (rw false a0)))), (9, .c (.t (.int .i64 (ln (rw false a0))))), (10, .c (.t (.int .i64 v12)))], [], [(1002, [.t (.int .i64 0), .t .nil, .t (.int .i64 0), .t (.str (ByteArray.mk #[])), .t .nil, .t (.int .i64 0), .t (.int .i64 0)])], [], [], []⟩ : St)) (by first | rfl | (subst q; rfl)) ?_
  rintro ⟨v11, v12⟩ xx1 h22 hx1 K1 hn1 hq1 ht1
  try dsimp only at h22
  cbv
  split
  rotate_left
  · rename_i c23
    try rw [c23]
    rw [c23] at h22
    try dsimp only at h22
    cbv
    cases h22
    have e1 := hx1 _ rfl
    subst e1
    try dsimp only at h
    refine hq1 _ _ ?_
    cbv
    split
    · rename_i c34
      try rw [c34]
      rw [c34] at h
      try dsimp only at h
      cbv
      cases h
      first | exact ⟨hr.symm, trivial⟩ | (subst q; exact ⟨hr.symm, trivial⟩)
    rename_i c34
    try rw [c34]
    rw [c34] at h
    try dsimp only at h
    cbv
    obtain ⟨⟨x35_0, ⟨⟨x35_1⟩, ⟨x35_2, x35_3, x35_4⟩⟩, x35_5, x35_6⟩, h36, h⟩ := bd h
    try dsimp only at h
    rw [(ix_Variant F q h36).1]
    cbv
    obtain ⟨⟨⟨r38_1⟩, ⟨r38_2, r38_3, r38_4⟩⟩, h37, h⟩ := bd h
    try dsimp only at h
    have vh37 := w_i_copyResidual q h37
    dsimp only at vh37
    refine ⟨_, ⟨(hR ▸ vh37 : R _ _ _ _ _), rfl⟩, ?_⟩
    cbv
    cases h
    first | exact ⟨hr.symm, trivial⟩ | (subst q; exact ⟨hr.symm, trivial⟩)
  rename_i c23
  try rw [c23]
  rw [c23] at h22
  try dsimp only at h22
  cbv
  obtain ⟨⟨x24_0, ⟨⟨x24_1⟩, ⟨x24_2, x24_3, x24_4⟩⟩, x24_5, x24_6⟩, h25, h22⟩ := bd h22
  try dsimp only at h22
  rw [(ix_Variant F q h25).1]
  cbv
  split
  · rename_i c26
    try rw [c26]
    rw [c26] at h22
    try dsimp only at h22
    cbv
    cases h22
    exact hn1 _ _ rfl (by first | rfl | (subst q; rfl))
  rename_i c26
  try rw [c26]
  rw [c26] at h22
  try dsimp only at h22
  cbv
  obtain ⟨⟨x27_0, ⟨⟨x27_1⟩, ⟨x27_2, x27_3, x27_4⟩⟩, x27_5, x27_6⟩, h28, h22⟩ := bd h22
  try dsimp only at h22
  rw [(ix_Variant F q h28).1]
  cbv
  obtain ⟨r30_1, h29, h22⟩ := bd h22
  try dsimp only at h22
  refine ⟨_, ⟨(hR ▸ w_i_IsBetter q h29 : R _ _ _ _ _), rfl⟩, ?_⟩
  cbv
  split
  · try dsimp only at h22
    cbv
    cases h22
    exact hn1 _ _ rfl (by first | rfl | (subst q; rfl))
  try dsimp only at h22
  cbv
  cases h22
  exact hn1 _ _ rfl (by first | rfl | (subst q; rfl))
noncomputable def b_l_FnExactBestVariant (a0 : List Variant) : Option Bool :=
  (k_szVariantS a0 1048576).bind fun r2 => (match (lti r2 0) with | true => some true | false => (k_toVariantS a0).bind fun r5 => (b_s_BestVariant r5).bind fun r7 => (k_toVariantS a0).bind fun r9 => (b_i_BestVariant r9).bind fun r11 => (k_eqVariant (r11.1 : Variant) (r7.1 : Variant)).bind fun r13 => (match (notb r13) with | true => some false | false => (match (neb r11.2 r7.2) with | true => some false | false => (k_toVariantS a0).bind fun r17 => (k_eqVariantS r9 r17).bind fun r19 => (match (notb r19) with | true => some false | false => (k_markVariantS r9 1).bind fun r22 => (match (lti r22.1 0) with | true => some false | false => (k_eqVariant (r11.1 : Variant) (r7.1 : Variant)).bind fun r25 => (match (notb r25) with | true => some false | false => (k_markVariant (r11.1 : Variant) 1).bind fun r28 => (k_heldVariant (⟨r11.1.policy, ⟨⟨r28.2.1⟩, ⟨r11.1.residual.start.kind, r11.1.residual.start.name, r28.2.2⟩⟩, r11.1.rules, r11.1.steps⟩ : Variant) 1).bind fun r30 => (match (lti r30 0) with | true => some false | false => (match (nei r30 r28.1) with | true => some false | false => (k_toVariantS a0).bind fun r34 => (b_i_BestVariant r34).bind fun r36 => (k_eqVariant (r36.1 : Variant) (r7.1 : Variant)).bind fun r38 => (match (notb r38) with | true => some false | false => (match (neb r36.2 r7.2) with | true => some false | false => (k_heldVariant (⟨r11.1.policy, ⟨⟨r28.2.1⟩, ⟨r11.1.residual.start.kind, r11.1.residual.start.name, r28.2.2⟩⟩, r11.1.rules, r11.1.steps⟩ : Variant) 1).bind fun r42 => (match (lti r42 0) with | true => some false | false => (match (nei r42 r28.1) with | true => some false | false => some true))))))))))))
theorem w_l_FnExactBestVariant {rw : RW} (q : @rw = @rows) {a0 : List Variant} {r : Bool} (h : b_l_FnExactBestVariant a0 = some r) : Returns E 4 [.c (.t (.sl false 7 (rw false a0)))] [] (.c (.t (.bool r))) [] := by
  unfold b_l_FnExactBestVariant at h
  refine fn_walk tb ([18, 19], []) ([0, 2, 3, 4, 5, 6, 7, 8, 9, 10, 11, 12, 13, 18, 40, 45, 61, 69, 72, 87, 92, 95], []) (fn := Try.f4) hmix htb Try.func4 rfl (by kernel_rfl) (by kernel_rfl) (Nat.le_of_ble_eq_true (by kernel_rfl)) rfl ?_
  intro ar cm sc bc nt ng ln sz tn idx get set vw rep nf dv ct wr bt bs us ur ap fl on mi mh ms mo mx mn R rz hπ hR hr
  have F := PF.of hπ
  try simp only [F.mlti, F.mneb, F.mnei, F.mnotb] at h
  cbv
  obtain ⟨r2_1, h1, h⟩ := bd h
  try dsimp only at h
  refine ⟨_, ⟨(hR ▸ cc_szVariantS q h1 : R _ _ _ _ _), rfl⟩, ?_⟩
  cbv
  split
  · rename_i c3
    try rw [c3]
    rw [c3] at h
    try dsimp only at h
    cbv
    cases h
    first | exact ⟨hr.symm, trivial⟩ | (subst q; exact ⟨hr.symm, trivial⟩)
  rename_i c3
  try rw [c3]
  rw [c3] at h
  try dsimp only at h
  cbv
  obtain ⟨r5_1, h4, h⟩ := bd h
  try dsimp only at h
  refine ⟨_, ⟨(hR ▸ cc_toVariantS q h4 : R _ _ _ _ _), rfl⟩, ?_⟩
  cbv
  obtain ⟨⟨⟨r7_1, ⟨⟨r7_2⟩, ⟨r7_3, r7_4, r7_5⟩⟩, r7_6, r7_7⟩, r7_8⟩, h6, h⟩ := bd h
  try dsimp only at h
  have vh6 := w_s_BestVariant q h6
  rw [← F.rvw q true r5_1] at vh6
  dsimp only at vh6
  refine ⟨_, ⟨(hR ▸ vh6 : R _ _ _ _ _), rfl, by cbv; simp [F.rnf q]⟩, ?_⟩
  cbv
  obtain ⟨r9_1, h8, h⟩ := bd h
  try dsimp only at h
  refine ⟨_, ⟨(hR ▸ cc_toVariantS q h8 : R _ _ _ _ _), rfl⟩, ?_⟩
  cbv
  obtain ⟨⟨⟨r11_1, ⟨⟨r11_2⟩, ⟨r11_3, r11_4, r11_5⟩⟩, r11_6, r11_7⟩, r11_8⟩, h10, h⟩ := bd h
  try dsimp only at h
  have vh10 := w_i_BestVariant q h10
  rw [← F.rvw q true r9_1] at vh10
  dsimp only at vh10
  refine ⟨_, ⟨(hR ▸ vh10 : R _ _ _ _ _), rfl, by cbv; simp [F.rnf q]⟩, ?_⟩
  cbv
  obtain ⟨r13_1, h12, h⟩ := bd h
  try dsimp only at h
  have vh12 := cc_eqVariant q h12
  rw [← F.rvw q true r11_2] at vh12
  rw [← F.rvw q true r11_5] at vh12
  rw [← F.rvw q true r7_2] at vh12
  rw [← F.rvw q true r7_5] at vh12
  refine ⟨_, ⟨(hR ▸ vh12 : R _ _ _ _ _), rfl, rfl⟩, ?_⟩
  cbv
  split
  · rename_i c14
    try rw [c14]
    rw [c14] at h
    try dsimp only at h
    cbv
    cases h
    first | exact ⟨hr.symm, trivial⟩ | (subst q; exact ⟨hr.symm, trivial⟩)
  rename_i c14
  try rw [c14]
  rw [c14] at h
  try dsimp only at h
  cbv
  split
  · rename_i c15
    try rw [c15]
    rw [c15] at h
    try dsimp only at h
    cbv
    cases h
    first | exact ⟨hr.symm, trivial⟩ | (subst q; exact ⟨hr.symm, trivial⟩)
  rename_i c15
  try rw [c15]
  rw [c15] at h
  try dsimp only at h
  cbv
  obtain ⟨r17_1, h16, h⟩ := bd h
  try dsimp only at h
  refine ⟨_, ⟨(hR ▸ cc_toVariantS q h16 : R _ _ _ _ _), rfl⟩, ?_⟩
  cbv
  obtain ⟨r19_1, h18, h⟩ := bd h
  try dsimp only at h
  have vh18 := cc_eqVariantS q h18
  rw [← F.rvw q true r9_1] at vh18
  rw [← F.rvw q true r17_1] at vh18
  refine ⟨_, ⟨(hR ▸ vh18 : R _ _ _ _ _), rfl, rfl⟩, ?_⟩
  cbv
  split
  · rename_i c20
    try rw [c20]
    rw [c20] at h
    try dsimp only at h
    cbv
    cases h
    first | exact ⟨hr.symm, trivial⟩ | (subst q; exact ⟨hr.symm, trivial⟩)
  rename_i c20
  try rw [c20]
  rw [c20] at h
  try dsimp only at h
  cbv
  obtain ⟨⟨r22_0, r22_1⟩, h21, h⟩ := bd h
  try dsimp only at h
  refine ⟨_, [.sl true 7 (rw true r22_1)], ⟨(hR ▸ cc_markVariantS q h21 : R _ _ _ _ _), rfl⟩, ?_⟩
  cbv
  split
  · rename_i c23
    try rw [c23]
    rw [c23] at h
    try dsimp only at h
    cbv
    cases h
    first | exact ⟨hr.symm, trivial⟩ | (subst q; exact ⟨hr.symm, trivial⟩)
  rename_i c23
  try rw [c23]
  rw [c23] at h
  try dsimp only at h
  cbv
  obtain ⟨r25_1, h24, h⟩ := bd h
  try dsimp only at h
  have vh24 := cc_eqVariant q h24
  rw [← F.rvw q true r11_2] at vh24
  rw [← F.rvw q true r11_5] at vh24
  rw [← F.rvw q true r7_2] at vh24
  rw [← F.rvw q true r7_5] at vh24
  refine ⟨_, ⟨(hR ▸ vh24 : R _ _ _ _ _), rfl, rfl⟩, ?_⟩
  cbv
  split
  · rename_i c26
    try rw [c26]
    rw [c26] at h
    try dsimp only at h
    cbv
    cases h
    first | exact ⟨hr.symm, trivial⟩ | (subst q; exact ⟨hr.symm, trivial⟩)
  rename_i c26
  try rw [c26]
  rw [c26] at h
  try dsimp only at h
  cbv
  rw [c15]
  cbv
  obtain ⟨⟨r28_0, r28_1, r28_2⟩, h27, h⟩ := bd h
  try dsimp only at h
  refine ⟨_, [.sl true 7 (rw true r28_1), .sl true 3 (rw true r28_2)], ⟨(hR ▸ cc_markVariant q h27 : R _ _ _ _ _), rfl⟩, ?_⟩
  cbv
  obtain ⟨r30_1, h29, h⟩ := bd h
  try dsimp only at h
  have vh29 := cc_heldVariant q h29
  rw [← F.rvw q true r28_1] at vh29
  rw [← F.rvw q true r28_2] at vh29
  refine ⟨_, ⟨(hR ▸ vh29 : R _ _ _ _ _), rfl, rfl⟩, ?_⟩
  cbv
  split
  · rename_i c31
    try rw [c31]
    rw [c31] at h
    try dsimp only at h
    cbv
    cases h
    first | exact ⟨hr.symm, trivial⟩ | (subst q; exact ⟨hr.symm, trivial⟩)
  rename_i c31
  try rw [c31]
  rw [c31] at h
  try dsimp only at h
  cbv
  split
  · rename_i c32
    try rw [c32]
    rw [c32] at h
    try dsimp only at h
    cbv
    cases h
    first | exact ⟨hr.symm, trivial⟩ | (subst q; exact ⟨hr.symm, trivial⟩)
  rename_i c32
  try rw [c32]
  rw [c32] at h
  try dsimp only at h
  cbv
  obtain ⟨r34_1, h33, h⟩ := bd h
  try dsimp only at h
  refine ⟨_, ⟨(hR ▸ cc_toVariantS q h33 : R _ _ _ _ _), rfl⟩, ?_⟩
  cbv
  obtain ⟨⟨⟨r36_1, ⟨⟨r36_2⟩, ⟨r36_3, r36_4, r36_5⟩⟩, r36_6, r36_7⟩, r36_8⟩, h35, h⟩ := bd h
  try dsimp only at h
  have vh35 := w_i_BestVariant q h35
  rw [← F.rvw q true r34_1] at vh35
  dsimp only at vh35
  refine ⟨_, ⟨(hR ▸ vh35 : R _ _ _ _ _), rfl, by cbv; simp [F.rnf q]⟩, ?_⟩
  cbv
  obtain ⟨r38_1, h37, h⟩ := bd h
  try dsimp only at h
  have vh37 := cc_eqVariant q h37
  rw [← F.rvw q true r36_2] at vh37
  rw [← F.rvw q true r36_5] at vh37
  rw [← F.rvw q true r7_2] at vh37
  rw [← F.rvw q true r7_5] at vh37
  refine ⟨_, ⟨(hR ▸ vh37 : R _ _ _ _ _), rfl, rfl⟩, ?_⟩
  cbv
  split
  · rename_i c39
    try rw [c39]
    rw [c39] at h
    try dsimp only at h
    cbv
    cases h
    first | exact ⟨hr.symm, trivial⟩ | (subst q; exact ⟨hr.symm, trivial⟩)
  rename_i c39
  try rw [c39]
  rw [c39] at h
  try dsimp only at h
  cbv
  split
  · rename_i c40
    try rw [c40]
    rw [c40] at h
    try dsimp only at h
    cbv
    cases h
    first | exact ⟨hr.symm, trivial⟩ | (subst q; exact ⟨hr.symm, trivial⟩)
  rename_i c40
  try rw [c40]
  rw [c40] at h
  try dsimp only at h
  cbv
  obtain ⟨r42_1, h41, h⟩ := bd h
  try dsimp only at h
  have vh41 := cc_heldVariant q h41
  rw [← F.rvw q true r28_1] at vh41
  rw [← F.rvw q true r28_2] at vh41
  refine ⟨_, ⟨(hR ▸ vh41 : R _ _ _ _ _), rfl, rfl⟩, ?_⟩
  cbv
  split
  · rename_i c43
    try rw [c43]
    rw [c43] at h
    try dsimp only at h
    cbv
    cases h
    first | exact ⟨hr.symm, trivial⟩ | (subst q; exact ⟨hr.symm, trivial⟩)
  rename_i c43
  try rw [c43]
  rw [c43] at h
  try dsimp only at h
  cbv
  split
  · rename_i c44
    try rw [c44]
    rw [c44] at h
    try dsimp only at h
    cbv
    cases h
    first | exact ⟨hr.symm, trivial⟩ | (subst q; exact ⟨hr.symm, trivial⟩)
  rename_i c44
  try rw [c44]
  rw [c44] at h
  try dsimp only at h
  cbv
  cases h
  first | exact ⟨hr.symm, trivial⟩ | (subst q; exact ⟨hr.symm, trivial⟩)
end Vx.D.Ytbnagcgfmlmgnaa
