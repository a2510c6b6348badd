import Derived.Test.YtbnagcgfmlmgnaaC7
import Derived.Test.YtbnagcgfmlmgnaaRows
/- The row of FnExactBestVariant: for all arguments it returns true, and its arguments read as they did. No condition. -/
open Go Vx
namespace Vx.D.Ytbnagcgfmlmgnaa
open Go.Proofs
set_option maxRecDepth 100000
set_option maxHeartbeats 2000000
set_option linter.unusedVariables false
set_option linter.unusedSimpArgs false

theorem p_l5Rules {r : Rule} (h : G.tot r ≤ 2 ^ 38) : b_s_l5Rules r = some r := by
  rw [Rule.tot] at h
  have h1 := len_le (l := r.vars) (by omega)
  have h2 := len_le (l := r.params) (by omega)
  have h3 : k_cp r.body = some r.body := if_pos (by omega)
  unfold b_s_l5Rules
  rw [app_nil _ h1, app_nil _ h2, h3]
  rfl
theorem p_copyRule {r : Rule} (h : G.tot r ≤ 2 ^ 38) : b_i_copyRule r = some r := by
  rw [Rule.tot] at h
  have h1 : k_CloneStr r.vars = some r.vars := if_pos (by omega)
  have h2 : k_CloneStr r.params = some r.params := if_pos (by omega)
  have h3 : k_cp r.body = some r.body := if_pos (by omega)
  unfold b_i_copyRule
  rw [h1, h2, h3]
  rfl

theorem p_l5Copy {p : Program} (ht : totL p.rules ≤ 2 ^ 38) (hb : p.rules.length ≤ 2 ^ 38) : b_s_l5Copy p = some p := by
  unfold b_s_l5Copy
  refine (congrArg (Option.bind · _) (loop_run (fun i => (I i, p.rules.take i)) p.rules.length (r := p.rules) (fun i hi => ?_) ?_)).trans rfl
  · simp only [len_I, lti_I, hi, decide_true, nth_I, getE hi, Option.bind_some, p_l5Rules (totL_mem (List.getElem_mem hi) ht), push_take p.rules i hi hb, addw_I (show i < 2 ^ 62 by omega)]
  · simp only [len_I, lti_I, Nat.lt_irrefl, decide_false, List.take_length]


theorem p_copyProgram {p : Program} (ht : totL p.rules ≤ 2 ^ 38) (hb : p.rules.length ≤ 2 ^ 38) : b_i_copyProgram p = some p := by
  unfold b_i_copyProgram
  refine (congrArg (Option.bind · _) (loop_run (fun i => (I i, p.rules.take i)) p.rules.length (r := p.rules) (fun i hi => ?_) ?_)).trans rfl
  · simp only [len_I, lti_I, hi, decide_true, nth_I, getE hi, Option.bind_some, p_copyRule (totL_mem (List.getElem_mem hi) ht), push_take p.rules i hi hb, addw_I (show i < 2 ^ 62 by omega)]
  · simp only [len_I, lti_I, Nat.lt_irrefl, decide_false, List.take_length]

theorem p_l23Copy {r : Residual} (h : G.tot r ≤ 2 ^ 38) : b_s_l23Copy r = some r := by
  rw [Residual.tot, Program.tot] at h
  have h1 : totL r.program.rules ≤ 2 ^ 38 := by omega
  have h3 : k_cp r.start = some r.start := if_pos (by omega)
  unfold b_s_l23Copy
  rw [p_l5Copy h1 (len_le h1), h3]
  rfl
theorem p_copyResidual {r : Residual} (h : G.tot r ≤ 2 ^ 38) : b_i_copyResidual r = some r := by
  rw [Residual.tot, Program.tot] at h
  have h1 : totL r.program.rules ≤ 2 ^ 38 := by omega
  have h3 : k_cp r.start = some r.start := if_pos (by omega)
  unfold b_i_copyResidual
  rw [p_copyProgram h1 (len_le h1), h3]
  rfl
theorem p_l28Copy {x : Variant} (h : G.tot x ≤ 2 ^ 38) : b_s_l28Copy x = some x := by
  unfold b_s_l28Copy
  rw [p_l23Copy (by rw [Variant.tot] at h; exact h)]
  rfl
/-- Is the first one better? -/
def bet (x y : Variant) : Bool := match nei x.steps y.steps with | true => lti x.steps y.steps | false => match nei x.rules y.rules with | true => lti x.rules y.rules | false => lti x.policy y.policy
theorem p_sBetter (x y : Variant) : b_s_IsBetter x y = some (bet x y) := by
  unfold b_s_IsBetter bet
  cases nei x.steps y.steps <;> cases nei x.rules y.rules <;> rfl
theorem p_iBetter (x y : Variant) : b_i_IsBetter x y = some (bet x y) := by
  unfold b_i_IsBetter bet
  cases nei x.steps y.steps <;> cases nei x.rules y.rules <;> rfl
/-- The number of the best one of the first `n`. -/
def bi (l : List Variant) : Nat → Nat
  | 0 => 0
  | n + 1 => match l[n]?, l[bi l n]? with
    | some x, some y => match bet x y with | true => n | false => bi l n
    | _, _ => bi l n
theorem bi_lt {l : List Variant} (h : 0 < l.length) : ∀ n, n ≤ l.length → bi l n < l.length
  | 0, _ => h
  | n + 1, hn => by
    have := bi_lt h n (by omega)
    rw [bi]
    split
    · split
      · omega
      · exact this
    · exact this
theorem bi_succ {l : List Variant} {n : Nat} (h : n < l.length) (h' : bi l n < l.length) : bi l (n + 1) = match bet l[n] l[bi l n] with | true => n | false => bi l n := by
  rw [bi, getE h, getE h']
/-- What both find. -/
def best (l : List Variant) : Variant × Bool := match l[bi l l.length]? with
  | some x => (x, true)
  | none => (⟨0, ⟨⟨[]⟩, ⟨0, (ByteArray.mk #[]), []⟩⟩, 0, 0⟩, false)
theorem p_sBest {l : List Variant} (h : totL l ≤ 2 ^ 38) : b_s_BestVariant l = some (best l) := by
  have hb := len_le h
  unfold b_s_BestVariant
  rcases Nat.eq_zero_or_pos l.length with h0 | h0
  · obtain rfl : l = [] := List.length_eq_zero_iff.1 h0
    rfl
  have e : eqi (len l) 0 = false := decide_eq_false fun e => by simp only [len, I] at e; omega
  rw [e]
  refine (congrArg (Option.bind · _) (loop_run (fun i => (I i, I (bi l i))) l.length (r := I (bi l l.length)) (fun i hi => ?_) ?_)).trans ?_
  · have hk := bi_lt h0 i (by omega)
    simp only [len_I, lti_I, hi, decide_true, nth_I, getE hi, getE hk, Option.bind_some, p_sBetter, addw_I (show i < 2 ^ 62 by omega), bi_succ hi hk]
    cases bet l[i] l[bi l i] <;> rfl
  · simp only [len_I, lti_I, Nat.lt_irrefl, decide_false]
  · have hk := bi_lt h0 l.length (Nat.le_refl _)
    simp only [Option.bind_some, nth_I, getE hk, p_l28Copy (totL_mem (List.getElem_mem hk) h), best]
theorem p_iBest {l : List Variant} (h : totL l ≤ 2 ^ 38) : b_i_BestVariant l = some (best l) := by
  have hb := len_le h
  unfold b_i_BestVariant
  rcases Nat.eq_zero_or_pos l.length with h0 | h0
  · obtain rfl : l = [] := List.length_eq_zero_iff.1 h0
    rw [loopC_eq]
    rfl
  refine (congrArg (Option.bind · _) (loop_run (fun i => (match i with | 0 => -1 | i + 1 => I (bi l (i + 1)), I i)) l.length (r := I (bi l l.length)) (fun i hi => ?_) ?_)).trans ?_
  · have hk := bi_lt h0 i (by omega)
    cases i with
    | zero =>
      simp only [len_I, lti_I, hi, decide_true, nth_I, getE hi, Option.bind_some, addw_I (show 0 < 2 ^ 62 by omega)]
      rw [bi_succ hi hk]
      cases bet l[0] l[bi l 0] <;> rfl
    | succ i =>
      simp only [len_I, lti_I, hi, decide_true, nth_I, getE hi, getE hk, Option.bind_some, p_iBetter, addw_I (show i + 1 < 2 ^ 62 by omega), lti_I0]
      rw [bi_succ hi hk]
      cases bet l[i + 1] l[bi l (i + 1)] <;> rfl
  · obtain ⟨m, hm⟩ : ∃ m, l.length = m + 1 := ⟨l.length - 1, by omega⟩
    simp only [len_I, lti_I, Nat.lt_irrefl, decide_false]
    rw [hm]
  · have hk := bi_lt h0 l.length (Nat.le_refl _)
    have ht := totL_mem (List.getElem_mem hk) h
    rw [Variant.tot] at ht
    simp only [Option.bind_some, nth_I, getE hk, lti_I0, p_copyResidual ht, best]
/-! ### The law -/
theorem cntL_mkL {α : Type} [Mk α] : ∀ (l : List α) (k : Nat), (∀ x ∈ l, ∀ k, Mk.cnt (Mk.mark k x) = Mk.cnt x) → cntL (mkL k l) = cntL l
  | [], _, _ => rfl
  | x :: l, k, h => by
    have e1 : cntL (mkL k (x :: l)) = Mk.cnt (Mk.mark k x) + cntL (mkL (k + Mk.cnt x) l) := rfl
    have e2 : cntL (x :: l) = Mk.cnt x + cntL l := rfl
    rw [e1, e2, h x (by simp) k, cntL_mkL l _ fun y hy => h y (by simp [hy])]
theorem cnt_Expr : ∀ (e : Expr) (k : Nat), Mk.cnt (Mk.mark k e) = Mk.cnt e := by
  refine Expr.ind fun a b c ih k => ?_
  rw [Expr.mark, Expr.cnt, Expr.cnt, cntL_mkL c _ ih]
theorem cnt_Exprs (l : List Expr) (k : Nat) : cntL (mkL k l) = cntL l := cntL_mkL l k fun x _ => cnt_Expr x
theorem cnt_Strs (l : List ByteArray) (k : Nat) : cntL (mkL k l) = cntL l := cntL_mkL l k fun x _ _ => rfl
theorem cnt_Rule (r : Rule) (k : Nat) : Mk.cnt (Mk.mark k r) = Mk.cnt r := by
  show 1 + 1 + cntL (mkL _ r.vars) + cntL (mkL _ r.params) + Mk.cnt (Mk.mark _ r.body) = 1 + 1 + cntL r.vars + cntL r.params + Mk.cnt r.body
  rw [cnt_Strs, cnt_Strs, cnt_Expr]
theorem cnt_Rules (l : List Rule) (k : Nat) : cntL (mkL k l) = cntL l := cntL_mkL l k fun x _ => cnt_Rule x
theorem cntL_tot {α : Type} [G α] [Mk α] (c : Nat) : ∀ (l : List α), (∀ x ∈ l, Mk.cnt x ≤ c + c * G.tot x) → cntL l ≤ c * totL l
  | [], _ => Nat.zero_le _
  | x :: l, h => by
    have e1 : cntL (x :: l) = Mk.cnt x + cntL l := rfl
    have e2 : totL (x :: l) = totL l + (1 + G.tot x) := by unfold totL; simp only [List.length_cons, List.map_cons, List.sum_cons]; omega
    have h1 := h x (by simp)
    have h2 := cntL_tot c l fun y hy => h y (by simp [hy])
    rw [e1, e2, Nat.mul_add, Nat.mul_add, Nat.mul_one]
    omega
theorem cntT_Expr : ∀ (e : Expr), Mk.cnt e ≤ 2 + 2 * G.tot e := by
  refine Expr.ind fun a b c ih => ?_
  have := cntL_tot 2 c ih
  rw [Expr.cntc, Expr.tot]
  simp only
  omega
theorem cntT_Exprs (l : List Expr) : cntL l ≤ 2 * totL l := cntL_tot 2 l fun x _ => cntT_Expr x
theorem cntT_Strs (l : List ByteArray) : cntL l ≤ 2 * totL l := cntL_tot 2 l fun x _ => by show 1 ≤ _; omega
theorem cntT_Rule (r : Rule) : Mk.cnt r ≤ 4 + 4 * G.tot r := by
  have h1 := cntT_Strs r.vars
  have h2 := cntT_Strs r.params
  have h3 := cntT_Expr r.body
  show 1 + 1 + cntL r.vars + cntL r.params + Mk.cnt r.body ≤ _
  rw [Rule.tot]
  omega
theorem cntT_Rules (l : List Rule) : cntL l ≤ 4 * totL l := cntL_tot 4 l fun x _ => cntT_Rule x
theorem cntT_Variant (r : Variant) : Mk.cnt r ≤ 8 + 8 * G.tot r := by
  have h1 := cntT_Rules r.residual.program.rules
  have h3 := cntT_Expr r.residual.start
  show 1 + (cntL r.residual.program.rules + Mk.cnt r.residual.start) + 1 + 1 ≤ _
  rw [Variant.tot, Residual.tot, Program.tot]
  omega
theorem cntT_Variants (l : List Variant) : cntL l ≤ 8 * totL l := cntL_tot 8 l fun x _ => cntT_Variant x
theorem best_tot {l : List Variant} : G.tot (best l).1 ≤ totL l := by
  unfold best
  split
  · rename_i x h
    exact tot_mem (List.mem_of_getElem? h)
  · exact Nat.zero_le _
theorem p_law {l : List Variant} (hf : finL l) : b_l_FnExactBestVariant l = some true := by
  have e0 : k_szVariantS l 1048576 = some (szv (totL l) 1048576) := if_pos ⟨by omega, by omega, hf⟩
  unfold b_l_FnExactBestVariant
  rw [e0]
  by_cases hs : I (totL l) ≤ 1048576
  case neg => rw [szv_is_neg (by omega)]; rfl
  rw [szv_is hs]
  have ht : totL l ≤ 2 ^ 20 := by simp only [I] at hs; omega
  have n0 : lti (1048576 - I (totL l)) 0 = false := decide_eq_false (by omega)
  have e1 : k_toVariantS l = some l := if_pos (by omega)
  have hb := best_tot (l := l)
  have e2 : k_eqVariant (best l).1 (best l).1 = some true := by
    unfold k_eqVariant
    rw [if_pos (G.fine _ (by omega)), same_self]
  have e3 : k_eqVariantS l l = some true := by
    unfold k_eqVariantS
    rw [if_pos hf, same_self]
  have hc := cntT_Variants l
  have e4 : k_markVariantS l 1 = some (I (1 + cntL l), mkL 1 l) := if_pos ⟨by omega, by show 1 + _ ≤ _; omega, by show _ ≤ 9223372036854775807; omega⟩
  have h5 := (best l).1.residual.program.rules
  have q1 := cntT_Rules (best l).1.residual.program.rules
  have q2 := cntT_Exprs (best l).1.residual.start.args
  have q3 : totL (best l).1.residual.program.rules + totL (best l).1.residual.start.args ≤ 2 ^ 20 := by
    rw [Variant.tot, Residual.tot, Program.tot, Expr.tot] at hb
    omega
  have e5 : k_markVariant (best l).1 1 = some (I (1 + cntL (best l).1.residual.program.rules + cntL (best l).1.residual.start.args), mkL 1 (best l).1.residual.program.rules, mkL (1 + cntL (best l).1.residual.program.rules) (best l).1.residual.start.args) :=
    if_pos ⟨by omega, by show 1 + _ + _ ≤ _; omega, by show _ ≤ 9223372036854775807; omega, by show _ ≤ 9223372036854775807; omega⟩
  have e6 : k_heldVariant ⟨(best l).1.policy, ⟨⟨mkL 1 (best l).1.residual.program.rules⟩, ⟨(best l).1.residual.start.kind, (best l).1.residual.start.name, mkL (1 + cntL (best l).1.residual.program.rules) (best l).1.residual.start.args⟩⟩, (best l).1.rules, (best l).1.steps⟩ 1
      = some (I (1 + cntL (best l).1.residual.program.rules + cntL (best l).1.residual.start.args)) := by
    refine (if_pos ⟨by omega, (best l).1.residual.program.rules, (best l).1.residual.start.args, by show 1 + _ + _ ≤ _; omega, rfl, by show _ ≤ 9223372036854775807; omega, cnt_Rules _ _, rfl, by show _ ≤ 9223372036854775807; omega, cnt_Exprs _ _⟩).trans ?_
    show some (I (1 + cntL (mkL 1 _) + cntL (mkL _ _))) = _
    rw [cnt_Rules, cnt_Exprs]
  have n1 : ∀ n, lti (I n) 0 = false := lti_I0
  have n2 : ∀ n, nei (I n) (I n) = false := fun n => by simp [nei]
  have n3 : ∀ b, neb b b = false := fun b => by simp [neb]
  have n4 : notb true = false := rfl
  simp only [Option.bind_some, n0, e1, e2, e3, e4, e5, e6, p_sBest (show totL l ≤ 2 ^ 38 by omega), p_iBest (show totL l ≤ 2 ^ 38 by omega), n1, n2, n3, n4]
theorem c_law (x0 : List Variant) (h : finL x0) : Returns E 4 [.c (.t (.sl false 7 (rows false x0)))] [] (.c (.t (.bool true))) [] := w_l_FnExactBestVariant rfl (p_law h)
/-! ## The arguments -/
theorem co3 : Try.prog.cellsOf 3 = 1 := by kernel_rfl
theorem co9 : Try.prog.cellsOf 9 = 1 := by kernel_rfl
theorem co22 : Try.prog.cellsOf 22 = 1 := by kernel_rfl
theorem co24 : Try.prog.cellsOf 24 = 1 := by kernel_rfl
theorem co38 : Try.prog.cellsOf 38 = 1 := by kernel_rfl
theorem co56 : Try.prog.cellsOf 56 = 1 := by kernel_rfl
theorem co58 : Try.prog.cellsOf 58 = 3 := by kernel_rfl
theorem co63 : Try.prog.cellsOf 63 = 4 := by kernel_rfl
theorem co82 : Try.prog.cellsOf 82 = 1 := by kernel_rfl
theorem co90 : Try.prog.cellsOf 90 = 7 := by kernel_rfl
theorem co145 : Try.prog.cellsOf 145 = 7 := by kernel_rfl
theorem hsupp : supp Try.prog [38, 90, 3, 63, 24, 58, 22, 9, 56, 145, 82] = true := by kernel_rfl
theorem ent_StringS {n : Nat} {row : List T} (h : Row Try.prog n 82 row) : ∃ l : List ByteArray, row = G.cells false l ∧ G.fin l := by
  obtain ⟨xs, rfl, hl, hr⟩ := row_sl Try.underlying82 h
  rw [co9]
  obtain ⟨l, rfl, hf⟩ := rows_of (α := ByteArray) (fun r hm => by obtain ⟨m, _, h⟩ := hr r hm; exact row_str Try.underlying9 h) hl
  exact ⟨l, rfl, hf⟩
theorem ent_Expr0 : ∀ (n : Nat) (row : List T), Row Try.prog n 58 row → ∃ x : Expr, row = G.cells false x ∧ G.fin x := by
    intro n
    induction n using Nat.strongRecOn with
    | ind n ih =>
    intro row h
    obtain ⟨hl, m, hmn, hf⟩ := row_struct Try.underlying58 h
    rw [co58] at hl
    match row, hl with
    | [r0, r1, r2], _ =>
    simp only [List.forall_mem_cons, List.not_mem_nil, false_imp_iff, implies_true, and_true, co3, co9, co56, List.drop_zero, List.drop_succ_cons, List.take_succ_cons, List.take_zero] at hf
    obtain ⟨h0, h1, h2⟩ := hf
    obtain ⟨x0, h0⟩ := row_int Try.underlying3 h0
    simp only [List.cons.injEq, and_true] at h0
    subst h0
    obtain ⟨x1, h1, f1⟩ := row_str Try.underlying9 h1
    change _ = [T.str x1] at h1
    simp only [List.cons.injEq, and_true] at h1
    subst h1
    obtain ⟨xs, h2, hl, hr⟩ := row_sl Try.underlying56 h2
    rw [co58] at h2
    obtain ⟨x2, rfl, f2⟩ := rows_of (α := Expr) (fun r hm => by obtain ⟨m', hm', h⟩ := hr r hm; exact ih m' (Nat.lt_trans hm' hmn) r h) hl
    simp only [List.cons.injEq, and_true] at h2
    subst h2
    exact ⟨⟨x0, x1, x2⟩, by rw [Expr.cells], (Expr.fin _).2 ⟨f1, f2⟩⟩
theorem ent_Expr {n : Nat} {row : List T} (h : Row Try.prog n 58 row) : ∃ x : Expr, row = G.cells false x ∧ G.fin x := ent_Expr0 n row h
theorem ent_Rule {n : Nat} {row : List T} (h : Row Try.prog n 145 row) : ∃ x : Rule, row = G.cells false x ∧ G.fin x := by
    obtain ⟨hl, m, hmn, hf⟩ := row_struct Try.underlying145 h
    rw [co145] at hl
    match row, hl with
    | [r0, r1, r2, r3, r4, r5, r6], _ =>
    simp only [List.forall_mem_cons, List.not_mem_nil, false_imp_iff, implies_true, and_true, co9, co58, co82, List.drop_zero, List.drop_succ_cons, List.take_succ_cons, List.take_zero] at hf
    obtain ⟨h0, h1, h2, h3, h4⟩ := hf
    obtain ⟨x0, h0, f0⟩ := row_str Try.underlying9 h0
    change _ = [T.str x0] at h0
    simp only [List.cons.injEq, and_true] at h0
    subst h0
    obtain ⟨x1, h1, f1⟩ := row_str Try.underlying9 h1
    change _ = [T.str x1] at h1
    simp only [List.cons.injEq, and_true] at h1
    subst h1
    obtain ⟨x2, h2, f2⟩ := ent_StringS h2
    change _ = [T.sl false 1 (rows false x2)] at h2
    simp only [List.cons.injEq, and_true] at h2
    subst h2
    obtain ⟨x3, h3, f3⟩ := ent_StringS h3
    change _ = [T.sl false 1 (rows false x3)] at h3
    simp only [List.cons.injEq, and_true] at h3
    subst h3
    obtain ⟨x4, h4, f4⟩ := ent_Expr h4
    simp only [Expr.cells, List.cons.injEq, and_true] at h4
    obtain ⟨rfl, rfl, rfl⟩ := h4
    exact ⟨⟨x0, x1, x2, x3, x4⟩, rfl, ⟨f0, f1, f2, f3, f4⟩⟩
theorem ent_RuleS {n : Nat} {row : List T} (h : Row Try.prog n 22 row) : ∃ l : List Rule, row = G.cells false l ∧ G.fin l := by
  obtain ⟨xs, rfl, hl, hr⟩ := row_sl Try.underlying22 h
  rw [co145]
  obtain ⟨l, rfl, hf⟩ := rows_of (α := Rule) (fun r hm => by obtain ⟨m, _, h⟩ := hr r hm; exact ent_Rule h) hl
  exact ⟨l, rfl, hf⟩
theorem ent_Program {n : Nat} {row : List T} (h : Row Try.prog n 24 row) : ∃ x : Program, row = G.cells false x ∧ G.fin x := by
    obtain ⟨hl, m, hmn, hf⟩ := row_struct Try.underlying24 h
    rw [co24] at hl
    match row, hl with
    | [r0], _ =>
    simp only [List.forall_mem_cons, List.not_mem_nil, false_imp_iff, implies_true, and_true, co22, List.drop_zero, List.drop_succ_cons, List.take_succ_cons, List.take_zero] at hf
    have h0 := hf
    obtain ⟨x0, h0, f0⟩ := ent_RuleS h0
    change _ = [T.sl false 7 (rows false x0)] at h0
    simp only [List.cons.injEq, and_true] at h0
    subst h0
    exact ⟨⟨x0⟩, rfl, f0⟩
theorem ent_Residual {n : Nat} {row : List T} (h : Row Try.prog n 63 row) : ∃ x : Residual, row = G.cells false x ∧ G.fin x := by
    obtain ⟨hl, m, hmn, hf⟩ := row_struct Try.underlying63 h
    rw [co63] at hl
    match row, hl with
    | [r0, r1, r2, r3], _ =>
    simp only [List.forall_mem_cons, List.not_mem_nil, false_imp_iff, implies_true, and_true, co24, co58, List.drop_zero, List.drop_succ_cons, List.take_succ_cons, List.take_zero] at hf
    obtain ⟨h0, h1⟩ := hf
    obtain ⟨x0, h0, f0⟩ := ent_Program h0
    simp only [Program.cells, List.cons.injEq, and_true] at h0
    subst h0
    obtain ⟨x1, h1, f1⟩ := ent_Expr h1
    simp only [Expr.cells, List.cons.injEq, and_true] at h1
    obtain ⟨rfl, rfl, rfl⟩ := h1
    exact ⟨⟨x0, x1⟩, rfl, ⟨f0, f1⟩⟩
theorem ent_Variant {n : Nat} {row : List T} (h : Row Try.prog n 90 row) : ∃ x : Variant, row = G.cells false x ∧ G.fin x := by
    obtain ⟨hl, m, hmn, hf⟩ := row_struct Try.underlying90 h
    rw [co90] at hl
    match row, hl with
    | [r0, r1, r2, r3, r4, r5, r6], _ =>
    simp only [List.forall_mem_cons, List.not_mem_nil, false_imp_iff, implies_true, and_true, co3, co63, List.drop_zero, List.drop_succ_cons, List.take_succ_cons, List.take_zero] at hf
    obtain ⟨h0, h1, h2, h3⟩ := hf
    obtain ⟨x0, h0⟩ := row_int Try.underlying3 h0
    simp only [List.cons.injEq, and_true] at h0
    subst h0
    obtain ⟨x1, h1, f1⟩ := ent_Residual h1
    simp only [Residual.cells, List.cons.injEq, and_true] at h1
    obtain ⟨rfl, rfl, rfl, rfl⟩ := h1
    obtain ⟨x2, h2⟩ := row_int Try.underlying3 h2
    simp only [List.cons.injEq, and_true] at h2
    subst h2
    obtain ⟨x3, h3⟩ := row_int Try.underlying3 h3
    simp only [List.cons.injEq, and_true] at h3
    subst h3
    exact ⟨⟨x0, x1, x2, x3⟩, rfl, f1⟩
theorem ent_VariantS {n : Nat} {row : List T} (h : Row Try.prog n 38 row) : ∃ l : List Variant, row = G.cells false l ∧ G.fin l := by
  obtain ⟨xs, rfl, hl, hr⟩ := row_sl Try.underlying38 h
  rw [co90]
  obtain ⟨l, rfl, hf⟩ := rows_of (α := Variant) (fun r hm => by obtain ⟨m, _, h⟩ := hr r hm; exact ent_Variant h) hl
  exact ⟨l, rfl, hf⟩
theorem own : ownKnob Try.prog.godebug = none := by kernel_rfl
open Go.Proofs.Ytbnagcgfmlmgnaa Go.ChangeShapes Go.WideShapes Go.ChangeAt Go.RowKit in
theorem lifted (hlaw : ∀ (x0 : List Variant), G.fin x0 → Vx.Returns E 4 [.c (.t (.sl false 7 (rows false x0)))] [] (.c (.t (.bool true))) [])
    (os : Os) (started : os.Started) (H : Type) (enc : TypeId × Value → H) :
    ReturnsInHanded {} Try.checked os 4 .any (Rows.fnExactBestVariantSpec.pre6 enc Try.prog Try.f4 Rows.fnExactBestVariantRow.domain false) (Rows.fnExactBestVariantSpec.post enc Try.prog Try.f4 false true false false) := by
  refine returnsInHanded_of_change_sized (C := Try.checked) own started (by kernel_rfl) Try.func4
    (ChangeSpec.witness6 (enc := enc) (C := Try.checked) false ⟨#[], #[.slice none 0 0], []⟩ 40 (by kernel_rfl) (by kernel_rfl) (by kernel_rfl) (by kernel_rfl)) ?_
  intro W base args ds gs before hval0 hW hcnd hsz0 _
  have hval : ∀ (j : Nat) t v, Try.f4.params[j]? = some t → args[j]? = some v → Value.okWide Try.prog W .any base t v := hval0
  have hW' := hW
  obtain ⟨p, q, hA0, hV, rfl, hfz, hnd⟩ := hW
  have hA : DataW.TrodAll enc Try.prog W 0 (fun _ => true) true Try.f4.params.toList args.toList ds p := hA0
  rw [Try.params4] at hA hval
  obtain ⟨v0, vs0, d0, ds0, p0, q0, hargs, rfl, rfl, t0, s0⟩ := trodAll_cons hA
  obtain ⟨rfl, rfl, rfl⟩ := trodAll_nil s0
  obtain rfl : args = #[v0] := by cases args; simp_all
  obtain ⟨rfl, rfl⟩ := trodVars_none hV
  obtain ⟨n0, row0, hr0, hl0, hq0⟩ := entry_sv hsupp (show 38 ∈ [38, 90, 3, 63, 24, 58, 22, 9, 56, 145, 82] by decide) t0
  obtain ⟨x0, rfl, hf0⟩ := ent_VariantS hr0
  obtain ⟨pa0, pl0, pc0, hv0⟩ := Go.WideShapes.okWide_slice Try.underlying38 (hval 0 38 v0 rfl rfl)
  have ha0 : ArgRep W (.c (.t (.sl false 7 (rows false x0)))) v0 := ArgRep.one (by rw [hv0]; rfl) hq0
  refine (law_calls (hlaw x0 hf0) (W := W) (vals := #[v0]) rfl (fun n x hn => ?_)).mono fun e W' ⟨he, bel⟩ => ?_
  · match n, hn with
    | 0, hn => cases hn; exact ha0
    | n + 1, hn => simp at hn
  subst he
  have hcar0 := Below.trod (enc := enc) (P := Try.prog) (t := 38) (by kernel_rfl) (by kernel_rfl) (of_decide_eq_true (by kernel_rfl)) (W := W) (W' := W') t0 bel (fun x hx => hA.lt x (List.mem_append.2 (.inl hx)))
  exact ⟨_, rfl, _, _, _, [], _, [], hW', trodAll_mk1 (shut_bool Try.underlying4 _), (trodAll_cons_mk hcar0 trodAll_mk0), rfl, bel.frame _, fun h => by cases h⟩
open Go.Proofs.Ytbnagcgfmlmgnaa in
theorem over (hlaw : ∀ (x0 : List Variant), G.fin x0 → Vx.Returns E 4 [.c (.t (.sl false 7 (rows false x0)))] [] (.c (.t (.bool true))) []) : Rows.fnExactBestVariantRow.holds Try.pinned (OpenSpec.ofChange Rows.fnExactBestVariantSpec) :=
  OpenClaim.holds_of_wide 4 Try.f4 rfl rfl rfl rfl rfl rfl rfl ⟨rfl, rfl, rfl, rfl, rfl⟩ rfl rfl rfl rfl rfl (by kernel_rfl) Try.func4 (by kernel_rfl)
    (of_decide_eq_true (by kernel_rfl)) (by unfold Func.isWrapper; first | (rw [if_pos (by decide +kernel)]; kernel_rfl) | (rw [if_neg (by decide +kernel)]; exact ⟨rfl, rfl⟩))
    (fun os started H enc _ => lifted hlaw os started H enc)
open Go.Proofs.Ytbnagcgfmlmgnaa in
theorem proved_FnExactBestVariant : Rows.FnExactBestVariantSaid := over c_law
end Vx.D.Ytbnagcgfmlmgnaa
namespace Go.Proofs.Ytbnagcgfmlmgnaa
/-- The row, under a short name, for the claim. -/
theorem fnExactBestVariant_holds : Rows.FnExactBestVariantSaid := Vx.D.Ytbnagcgfmlmgnaa.proved_FnExactBestVariant
end Go.Proofs.Ytbnagcgfmlmgnaa
