import Derived.Test.YtbnagcgfmlmgnaaC4
import Derived.Test.YtbnagcgfmlmgnaaC5
/- What the copies of expressions return, and the same contracts in other words. No condition. -/
open Go Vx
namespace Vx.D.Ytbnagcgfmlmgnaa
open Go.Proofs
set_option maxRecDepth 100000
set_option maxHeartbeats 2000000
set_option linter.unusedVariables false
set_option linter.unusedSimpArgs false
open Classical in
noncomputable def k_szVariantS (a0 : List Variant) (a1 : Int) : Option Int := if 0 ≤ a1 ∧ a1 ≤ 2 ^ 40 ∧ finL a0 then some (szv (totL a0) a1) else none
theorem cc_szVariantS {rw : RW} (q : @rw = @rows) {a0 : List Variant} {a1 : Int} {r : Int} (h : k_szVariantS a0 a1 = some r) : Returns E 12 [.c (.t (.sl false 7 (rw false a0))), .c (.t (.int .i64 a1))] [] (.c (.t (.int .i64 r))) [] := by
  subst q; unfold k_szVariantS at h; split at h
  · rename_i c; cases h
    exact c_szVariantS rfl c.1 c.2.1 c.2.2
  · cases h
open Classical in
noncomputable def k_toVariantS (a0 : List Variant) : Option (List Variant) := if totL a0 ≤ 2 ^ 38 then some a0 else none
theorem cc_toVariantS {rw : RW} (q : @rw = @rows) {a0 : List Variant} {r : List Variant} (h : k_toVariantS a0 = some r) : Returns E 14 [.c (.t (.sl false 7 (rw false a0)))] [] (.c (.t (.sl true 7 (rw true r)))) [] := by
  subst q; unfold k_toVariantS at h; split at h
  · rename_i c; cases h
    exact c_toVariantS rfl rfl c
  · cases h
open Classical in
noncomputable def k_eqVariantS (a0 : List Variant) (a1 : List Variant) : Option Bool := if finL a0 then some (same a0 a1) else none
theorem cc_eqVariantS {rw : RW} (q : @rw = @rows) {a0 : List Variant} {a1 : List Variant} {r : Bool} (h : k_eqVariantS a0 a1 = some r) : Returns E 17 [.c (.t (.sl false 7 (rw false a0))), .c (.t (.sl false 7 (rw false a1)))] [] (.c (.t (.bool r))) [] := by
  subst q; unfold k_eqVariantS at h; split at h
  · rename_i c; cases h
    exact c_eqVariantS rfl rfl c
  · cases h
open Classical in
noncomputable def k_eqVariant (a0 : Variant) (a1 : Variant) : Option Bool := if G.fin a0 then some (same a0 a1) else none
theorem cc_eqVariant {rw : RW} (q : @rw = @rows) {a0 : Variant} {a1 : Variant} {r : Bool} (h : k_eqVariant a0 a1 = some r) : Returns E 16 [.agg [.t (.int .i64 a0.policy), .t (.sl false 7 (rw false a0.residual.program.rules)), .t (.int .i64 a0.residual.start.kind), .t (.str a0.residual.start.name), .t (.sl false 3 (rw false a0.residual.start.args)), .t (.int .i64 a0.rules), .t (.int .i64 a0.steps)], .agg [.t (.int .i64 a1.policy), .t (.sl false 7 (rw false a1.residual.program.rules)), .t (.int .i64 a1.residual.start.kind), .t (.str a1.residual.start.name), .t (.sl false 3 (rw false a1.residual.start.args)), .t (.int .i64 a1.rules), .t (.int .i64 a1.steps)]] [] (.c (.t (.bool r))) [] := by
  subst q; unfold k_eqVariant at h; split at h
  · rename_i c; cases h
    obtain ⟨a0_0, ⟨⟨a0_1⟩, ⟨a0_2, a0_3, a0_4⟩⟩, a0_5, a0_6⟩ := a0
    obtain ⟨a1_0, ⟨⟨a1_1⟩, ⟨a1_2, a1_3, a1_4⟩⟩, a1_5, a1_6⟩ := a1
    exact c_eqVariant rfl rfl rfl rfl c
  · cases h
open Classical in
noncomputable def k_markVariantS (a0 : List Variant) (a1 : Int) : Option (Int × List Variant) := if 0 ≤ a1 ∧ a1.toNat + cntL a0 ≤ 2 ^ 62 ∧ totL a0 ≤ BIG then some (I (a1.toNat + cntL a0), mkL a1.toNat a0) else none
theorem cc_markVariantS {rw : RW} (q : @rw = @rows) {a0 : List Variant} {a1 : Int} {r : Int × List Variant} (h : k_markVariantS a0 a1 = some r) : Returns E 18 [.c (.ref ⟨.obj 0, 0, []⟩), .c (.t (.int .i64 a1))] [.virt (.sl true 7 (rw true a0))] (.c (.t (.int .i64 r.1))) [.virt (.sl true 7 (rw true r.2))] := by
  subst q; unfold k_markVariantS at h; split at h
  · rename_i c; cases h
    have e : a1 = I a1.toNat := by simp only [I]; omega
    generalize a1.toNat = m at e c ⊢
    exact c_markVariantS rfl rfl e rfl c.2.1 c.2.2
  · cases h
open Classical in
noncomputable def k_markVariant (a0 : Variant) (a1 : Int) : Option (Int × List Rule × List Expr) := if 0 ≤ a1 ∧ a1.toNat + cntL a0.residual.program.rules + cntL a0.residual.start.args ≤ 2 ^ 62 ∧ totL a0.residual.program.rules ≤ BIG ∧ totL a0.residual.start.args ≤ BIG then some (I (a1.toNat + cntL a0.residual.program.rules + cntL a0.residual.start.args), mkL (a1.toNat) a0.residual.program.rules, mkL (a1.toNat + cntL a0.residual.program.rules) a0.residual.start.args) else none
theorem cc_markVariant {rw : RW} (q : @rw = @rows) {a0 : Variant} {a1 : Int} {r : Int × List Rule × List Expr} (h : k_markVariant a0 a1 = some r) : Returns E 19 [.agg [.t (.int .i64 a0.policy), .ref ⟨.obj 0, 0, []⟩, .t (.int .i64 a0.residual.start.kind), .t (.str a0.residual.start.name), .ref ⟨.obj 1, 0, []⟩, .t (.int .i64 a0.rules), .t (.int .i64 a0.steps)], .c (.t (.int .i64 a1))] [.virt (.sl true 7 (rw true a0.residual.program.rules)), .virt (.sl true 3 (rw true a0.residual.start.args))] (.c (.t (.int .i64 r.1))) [.virt (.sl true 7 (rw true r.2.1)), .virt (.sl true 3 (rw true r.2.2))] := by
  subst q; unfold k_markVariant at h; split at h
  · rename_i c; cases h
    obtain ⟨a0_0, ⟨⟨a0_1⟩, ⟨a0_2, a0_3, a0_4⟩⟩, a0_5, a0_6⟩ := a0
    have e : a1 = I a1.toNat := by simp only [I]; omega
    generalize a1.toNat = m at e c ⊢
    exact c_markVariant rfl rfl c.2.2.1 rfl rfl c.2.2.2 e rfl c.2.1
  · cases h
open Classical in
noncomputable def k_heldVariant (a0 : Variant) (a1 : Int) : Option Int := if 0 ≤ a1 ∧ ∃ (l0 : List Rule) (l1 : List Expr), a1.toNat + cntL l0 + cntL l1 ≤ 2 ^ 62 ∧ a0.residual.program.rules = mkL (a1.toNat) l0 ∧ totL l0 ≤ BIG ∧ cntL a0.residual.program.rules = cntL l0 ∧ a0.residual.start.args = mkL (a1.toNat + cntL l0) l1 ∧ totL l1 ≤ BIG ∧ cntL a0.residual.start.args = cntL l1 then some (I (a1.toNat + cntL a0.residual.program.rules + cntL a0.residual.start.args)) else none
theorem cc_heldVariant {rw : RW} (q : @rw = @rows) {a0 : Variant} {a1 : Int} {r : Int} (h : k_heldVariant a0 a1 = some r) : Returns E 20 [.agg [.t (.int .i64 a0.policy), .t (.sl false 7 (rw false a0.residual.program.rules)), .t (.int .i64 a0.residual.start.kind), .t (.str a0.residual.start.name), .t (.sl false 3 (rw false a0.residual.start.args)), .t (.int .i64 a0.rules), .t (.int .i64 a0.steps)], .c (.t (.int .i64 a1))] [] (.c (.t (.int .i64 r))) [] := by
  subst q; unfold k_heldVariant at h; split at h
  · rename_i c; cases h
    obtain ⟨a0_0, ⟨⟨a0_1⟩, ⟨a0_2, a0_3, a0_4⟩⟩, a0_5, a0_6⟩ := a0
    obtain ⟨h0, l0, l1, hk, e0, b0, d0, e1, b1, d1⟩ := c
    dsimp only at *
    have e : a1 = I a1.toNat := by simp only [I]; omega
    rw [d0, d1]
    generalize a1.toNat = m at *
    exact c_heldVariant (congrArg (rows false) e0.symm) b0 (congrArg (rows false) e1.symm) b1 e rfl hk
  · cases h
section
variable {ar : BinOp → IntKind → Int → Int → Int} {cm : BinOp → Int → Int → Bool} {sc : BinOp → ByteArray → ByteArray → Bool} {bc : BinOp → Bool → Bool → Bool} {nt : Bool → Bool} {ng : IntKind → Int → Int}
  {ln : List (List T) → Int} {sz : ByteArray → Int} {tn : Int → Nat} {idx : List (List T) → Int → Option (List T)} {get : List (List T) → Nat → Option (List T)} {set : List (List T) → Nat → List T → List (List T)} {vw : List (List T) → List (List T)}
  {rep : Int → Int → List T → Option (List (List T))} {nf : Bool → List (List T) → Bool} {dv : BinOp → IntKind → Int → Int → Option Int} {ct : ByteArray → ByteArray → Option ByteArray} {wr : IntKind → Int → Int} {bt : ByteArray → Int → Option Int} {bs : List (List T) → Option ByteArray} {us : ByteArray → Int → Int → Option ByteArray} {ur : List (List T) → Int → Int → Option (List (List T))} {ap : List (List T) → List (List T) → Option (List (List T))} {fl : List (List T) → Bool} {on : List (List T) → Bool} {mi : List (T × T) → T → Int} {mh : List (T × T) → T → Bool} {ms : List (T × T) → T → T → List (T × T)} {mo : KK → IntKind → List (T × T) → Bool} {mx : Int → Int → Int} {mn : Int → Int → Int}
variable (F : PF ar cm sc bc nt ng ln sz tn idx get set vw rep nf dv ct wr bt bs us ur ap fl on mi mh ms mo mx mn) {rw : RW} (q : @rw = @rows)
include F q
theorem ix_Expr {o : Bool} {l : List Expr} {i : Int} {y0 : Int} {y1 : ByteArray} {y2 : List Expr} (h : nth l i = some ⟨y0, y1, y2⟩) : idx (rw o l) i = some [.int .i64 y0, .str y1, .sl o 3 (rw o y2)] ∧ get (rw o l) (tn i) = some [.int .i64 y0, .str y1, .sl o 3 (rw o y2)] := by
  subst q; have := F.rix rfl (o := o) h; rw [Expr.cells] at this; exact this
theorem st_Expr {o : Bool} {l m : List Expr} {i : Int} {y0 : Int} {y1 : ByteArray} {y2 : List Expr} (h : setn l i ⟨y0, y1, y2⟩ = some m) : set (rw o l) (tn i) [.int .i64 y0, .str y1, .sl o 3 (rw o y2)] = rw o m := by
  subst q; have := F.rset rfl (o := o) h; rw [Expr.cells] at this; exact this
theorem pu_Expr {o : Bool} {l m : List Expr} {y0 : Int} {y1 : ByteArray} {y2 : List Expr} (h : push l ⟨y0, y1, y2⟩ = some m) : ap (rw o l) [[.int .i64 y0, .str y1, .sl o 3 (rw o y2)]] = some (rw o m) := by
  subst q; have := F.rpush rfl (o := o) h; rw [Expr.cells] at this; exact this
theorem mk_Expr {o : Bool} {l : List Expr} {n : Int} {y0 : Int} {y1 : ByteArray} {y2 : List Expr} (h : mkl n ⟨y0, y1, y2⟩ = some l) : rep n n [.int .i64 y0, .str y1, .sl o 3 (rw o y2)] = some (rw o l) := by
  subst q; have := F.rmk rfl (o := o) h; rw [Expr.cells] at this; exact this
theorem ix_Rule {o : Bool} {l : List Rule} {i : Int} {y0 : ByteArray} {y1 : ByteArray} {y2 : List ByteArray} {y3 : List ByteArray} {y4 : Int} {y5 : ByteArray} {y6 : List Expr} (h : nth l i = some ⟨y0, y1, y2, y3, ⟨y4, y5, y6⟩⟩) : idx (rw o l) i = some [.str y0, .str y1, .sl o 1 (rw false y2), .sl o 1 (rw false y3), .int .i64 y4, .str y5, .sl o 3 (rw o y6)] ∧ get (rw o l) (tn i) = some [.str y0, .str y1, .sl o 1 (rw false y2), .sl o 1 (rw false y3), .int .i64 y4, .str y5, .sl o 3 (rw o y6)] := by
  subst q; have := F.rix rfl (o := o) h; exact this
theorem st_Rule {o : Bool} {l m : List Rule} {i : Int} {y0 : ByteArray} {y1 : ByteArray} {y2 : List ByteArray} {y3 : List ByteArray} {y4 : Int} {y5 : ByteArray} {y6 : List Expr} (h : setn l i ⟨y0, y1, y2, y3, ⟨y4, y5, y6⟩⟩ = some m) : set (rw o l) (tn i) [.str y0, .str y1, .sl o 1 (rw false y2), .sl o 1 (rw false y3), .int .i64 y4, .str y5, .sl o 3 (rw o y6)] = rw o m := by
  subst q; have := F.rset rfl (o := o) h; exact this
theorem pu_Rule {o : Bool} {l m : List Rule} {y0 : ByteArray} {y1 : ByteArray} {y2 : List ByteArray} {y3 : List ByteArray} {y4 : Int} {y5 : ByteArray} {y6 : List Expr} (h : push l ⟨y0, y1, y2, y3, ⟨y4, y5, y6⟩⟩ = some m) : ap (rw o l) [[.str y0, .str y1, .sl o 1 (rw false y2), .sl o 1 (rw false y3), .int .i64 y4, .str y5, .sl o 3 (rw o y6)]] = some (rw o m) := by
  subst q; have := F.rpush rfl (o := o) h; exact this
theorem mk_Rule {o : Bool} {l : List Rule} {n : Int} {y0 : ByteArray} {y1 : ByteArray} {y2 : List ByteArray} {y3 : List ByteArray} {y4 : Int} {y5 : ByteArray} {y6 : List Expr} (h : mkl n ⟨y0, y1, y2, y3, ⟨y4, y5, y6⟩⟩ = some l) : rep n n [.str y0, .str y1, .sl o 1 (rw false y2), .sl o 1 (rw false y3), .int .i64 y4, .str y5, .sl o 3 (rw o y6)] = some (rw o l) := by
  subst q; have := F.rmk rfl (o := o) h; exact this
theorem ix_Variant {o : Bool} {l : List Variant} {i : Int} {y0 : Int} {y1 : List Rule} {y2 : Int} {y3 : ByteArray} {y4 : List Expr} {y5 : Int} {y6 : Int} (h : nth l i = some ⟨y0, ⟨⟨y1⟩, ⟨y2, y3, y4⟩⟩, y5, y6⟩) : idx (rw o l) i = some [.int .i64 y0, .sl o 7 (rw o y1), .int .i64 y2, .str y3, .sl o 3 (rw o y4), .int .i64 y5, .int .i64 y6] ∧ get (rw o l) (tn i) = some [.int .i64 y0, .sl o 7 (rw o y1), .int .i64 y2, .str y3, .sl o 3 (rw o y4), .int .i64 y5, .int .i64 y6] := by
  subst q; have := F.rix rfl (o := o) h; exact this
theorem st_Variant {o : Bool} {l m : List Variant} {i : Int} {y0 : Int} {y1 : List Rule} {y2 : Int} {y3 : ByteArray} {y4 : List Expr} {y5 : Int} {y6 : Int} (h : setn l i ⟨y0, ⟨⟨y1⟩, ⟨y2, y3, y4⟩⟩, y5, y6⟩ = some m) : set (rw o l) (tn i) [.int .i64 y0, .sl o 7 (rw o y1), .int .i64 y2, .str y3, .sl o 3 (rw o y4), .int .i64 y5, .int .i64 y6] = rw o m := by
  subst q; have := F.rset rfl (o := o) h; exact this
theorem pu_Variant {o : Bool} {l m : List Variant} {y0 : Int} {y1 : List Rule} {y2 : Int} {y3 : ByteArray} {y4 : List Expr} {y5 : Int} {y6 : Int} (h : push l ⟨y0, ⟨⟨y1⟩, ⟨y2, y3, y4⟩⟩, y5, y6⟩ = some m) : ap (rw o l) [[.int .i64 y0, .sl o 7 (rw o y1), .int .i64 y2, .str y3, .sl o 3 (rw o y4), .int .i64 y5, .int .i64 y6]] = some (rw o m) := by
  subst q; have := F.rpush rfl (o := o) h; exact this
theorem mk_Variant {o : Bool} {l : List Variant} {n : Int} {y0 : Int} {y1 : List Rule} {y2 : Int} {y3 : ByteArray} {y4 : List Expr} {y5 : Int} {y6 : Int} (h : mkl n ⟨y0, ⟨⟨y1⟩, ⟨y2, y3, y4⟩⟩, y5, y6⟩ = some l) : rep n n [.int .i64 y0, .sl o 7 (rw o y1), .int .i64 y2, .str y3, .sl o 3 (rw o y4), .int .i64 y5, .int .i64 y6] = some (rw o l) := by
  subst q; have := F.rmk rfl (o := o) h; exact this
theorem ix_Str {o : Bool} {l : List ByteArray} {i : Int} {y0 : ByteArray} (h : nth l i = some y0) : idx (rw false l) i = some [.str y0] ∧ get (rw false l) (tn i) = some [.str y0] := by
  subst q; have := F.rix rfl (o := false) h; exact this
theorem st_Str {o : Bool} {l m : List ByteArray} {i : Int} {y0 : ByteArray} (h : setn l i y0 = some m) : set (rw false l) (tn i) [.str y0] = rw false m := by
  subst q; have := F.rset rfl (o := false) h; exact this
theorem pu_Str {o : Bool} {l m : List ByteArray} {y0 : ByteArray} (h : push l y0 = some m) : ap (rw false l) [[.str y0]] = some (rw false m) := by
  subst q; have := F.rpush rfl (o := false) h; exact this
theorem mk_Str {o : Bool} {l : List ByteArray} {n : Int} {y0 : ByteArray} (h : mkl n y0 = some l) : rep n n [.str y0] = some (rw false l) := by
  subst q; have := F.rmk rfl (o := false) h; exact this
theorem nf_Str (l : List ByteArray) : nf true (rw false l) = true := by
  have := F.rnf q l; rw [q] at this ⊢; exact this
theorem on_Str (l : List ByteArray) : on (rw false l) = true := by
  rw [F.on, q]; simp [oneR, rows, G.cells, T.one]
theorem fl_Str (l : List ByteArray) : fl (rw false l) = true := by
  rw [F.fl, q]; simp [flatR, rows, G.cells, T.flat1]
end

theorem c_CloneStr {l : List ByteArray} {xs ys : List (List T)} (hx : rows false l = xs) (hy : rows true l = ys) (hb : totL l ≤ 2 ^ 38) :
    Returns E 137 [.c (.t (.sl false 1 xs))] [] (.c (.t (.sl true 1 ys))) [] := by
  refine fn_walk tb ([], []) ([0, 2, 4], [(2, .slot 2, 0, .own 1)]) (fn := Try.f137) hmix htb Try.func137 rfl (by kernel_rfl) (by kernel_rfl) (Nat.le_of_ble_eq_true (by kernel_rfl)) rfl ?_
  intro ar cm sc bc nt ng ln sz tn idx get set vw rep nf dv ct wr bt bs us ur ap fl on mi mh ms mo mx mn R r hπ hR hr
  have F := PF.of hπ
  have hxy : xs = ys := by rw [← hx, ← hy]; rfl
  have hbl : l.length ≤ 2 ^ 38 := Nat.le_trans (len_tot l) hb
  have hon : on xs = true := by rw [F.on, ← hx]; simp only [oneR, rows, List.all_map, List.all_eq_true]; intro x _; rfl
  have hap : ap [] xs = some xs := by
    rw [F.ap, if_pos]
    · rfl
    · show 0 + xs.length ≤ 2 ^ 38
      rw [← hx, rows_length]; omega
  cbv
  refine ⟨fun h => ?_, fun _ => ?_⟩
  · cbv
    exact ⟨by rw [hr, ← hxy, h], trivial⟩
  · cbv
    rw [hon]
    cbv
    rw [hap]
    cbv
    exact ⟨by rw [hr, hxy], trivial⟩
open Classical in
noncomputable def k_CloneStr (l : List ByteArray) : Option (List ByteArray) := if totL l ≤ 2 ^ 38 then some l else none
theorem cc_CloneStr {rw : RW} (q : @rw = @rows) {a0 r : List ByteArray} (h : k_CloneStr a0 = some r) : Returns E 137 [.c (.t (.sl false 1 (rw false a0)))] [] (.c (.t (.sl true 1 (rw false r)))) [] := by
  subst q
  unfold k_CloneStr at h
  split at h
  · rename_i c
    cases h
    exact c_CloneStr rfl rfl c
  · cases h
noncomputable def b_s_l3Copy (rf_s_l3Copy : Expr → Option Expr) (a0 : Expr) : Option Expr :=
  (loopC (σ := Int × List Expr) (ρ := (List Expr)) (fun s => match s with | (v7, v8) => (match (lti v7 (len a0.args)) with | true => (nth a0.args v7).bind fun x18 => (rf_s_l3Copy (x18 : Expr)).bind fun r21 => (push v8 (r21 : Expr)).bind fun l22 => some (.inl ((addw v7 1), l22)) | false => some (.inr (v8)))) (0, [])).bind (fun p25 => some (⟨a0.kind, a0.name, p25⟩))
theorem w_s_l3Copy {rw : RW} (q : @rw = @rows) {rf_s_l3Copy : Expr → Option Expr} (hf_s_l3Copy : ∀ {a0 : Expr} {r : Expr}, rf_s_l3Copy a0 = some r → Returns E 114 [.agg [.t (.int .i64 a0.kind), .t (.str a0.name), .t (.sl false 3 (rw false a0.args))]] [] (.agg [.t (.int .i64 r.kind), .t (.str r.name), .t (.sl true 3 (rw true r.args))]) []) {a0 : Expr} {r : Expr} (h : b_s_l3Copy rf_s_l3Copy a0 = some r) : Returns E 114 [.agg [.t (.int .i64 a0.kind), .t (.str a0.name), .t (.sl false 3 (rw false a0.args))]] [] (.agg [.t (.int .i64 r.kind), .t (.str r.name), .t (.sl true 3 (rw true r.args))]) [] := by
  unfold b_s_l3Copy at h
  obtain ⟨a0_0, a0_1, a0_2⟩ := a0
  dsimp only at h ⊢
  refine fn_walk tb ([], []) ([0, 1, 2, 3, 4, 14], [(2, .obj 1003, 2, .own 3)]) (fn := Try.f114) hmix htb Try.func114 rfl (by kernel_rfl) (by kernel_rfl) (Nat.le_of_ble_eq_true (by kernel_rfl)) rfl ?_
  intro ar cm sc bc nt ng ln sz tn idx get set vw rep nf dv ct wr bt bs us ur ap fl on mi mh ms mo mx mn R rz hπ hR hr
  have F := PF.of hπ
  try simp only [F.maddw, F.mlen q, F.mlti] at h
  cbv
  obtain ⟨rr1, hl1, h⟩ := bd h
  refine aloop_C hl1 [1, 2, 3, 4] [1001, 1002, 1003] (fun (s : Int × List Expr) => match s with | (v7, v8) => (⟨[(1, .c (.ptr ⟨.obj 1001, 0, []⟩)), (2, .c (.ptr ⟨.obj 1002, 0, []⟩)), (3, .c (.ptr ⟨.obj 1003, 0, []⟩)), (4, .c (.t (.int .i64 v7)))], [], [(1001, [.t (.int .i64 a0_0), .t (.str a0_1), .t (.sl false 3 (rw false a0_2))]), (1002, [.t (.int .i64 0), .t (.str (ByteArray.mk #[])), .t .nil]), (1003, [.t (.int .i64 a0_0), .t (.str a0_1), .t (.sl true 3 (rw true v8))])], [], [], []⟩ : St)) (by first | rfl | (subst q; rfl)) ?_
  rintro ⟨v7, v8⟩ xx1 h16 hx1 K1 hn1 hq1 ht1
  try dsimp only at h16
  cbv
  split
  rotate_left
  · rename_i c17
    try rw [c17]
    rw [c17] at h16
    try dsimp only at h16
    cbv
    cases h16
    have e1 := hx1 _ rfl
    subst e1
    try dsimp only at h
    refine hq1 _ _ ?_
    cbv
    cases h
    first | exact ⟨hr.symm, trivial⟩ | (subst q; exact ⟨hr.symm, trivial⟩)
  rename_i c17
  try rw [c17]
  rw [c17] at h16
  try dsimp only at h16
  cbv
  obtain ⟨⟨x18_0, x18_1, x18_2⟩, h19, h16⟩ := bd h16
  try dsimp only at h16
  rw [(ix_Expr F q h19).1]
  cbv
  obtain ⟨⟨r21_1, r21_2, r21_3⟩, h20, h16⟩ := bd h16
  try dsimp only at h16
  have vh20 := hf_s_l3Copy h20
  dsimp only at vh20
  refine ⟨_, ⟨(hR ▸ vh20 : R _ _ _ _ _), rfl⟩, ?_⟩
  cbv
  rw [F.on]
  cbv
  obtain ⟨l22, h23, h16⟩ := bd h16
  rw [pu_Expr F q h23]
  cbv
  cases h16
  exact hn1 _ _ rfl (by first | rfl | (subst q; rfl))
noncomputable def b_i_copyExprs (rf_i_copyExpr : Expr → Option Expr) (a0 : List Expr) : Option (List Expr) :=
  (loopC (σ := List Expr × Int) (ρ := (List Expr)) (fun s => match s with | (v7, v8) => (match (lti v8 (len a0)) with | true => (nth a0 v8).bind fun x18 => (rf_i_copyExpr (x18 : Expr)).bind fun r21 => (push v7 (r21 : Expr)).bind fun l22 => some (.inl (l22, (addw v8 1))) | false => some (.inr (v7)))) ([], 0)).bind (fun p24 => some p24)
theorem w_i_copyExprs {rw : RW} (q : @rw = @rows) {rf_i_copyExpr : Expr → Option Expr} (hf_i_copyExpr : ∀ {a0 : Expr} {r : Expr}, rf_i_copyExpr a0 = some r → Returns E 83 [.agg [.t (.int .i64 a0.kind), .t (.str a0.name), .t (.sl false 3 (rw false a0.args))]] [] (.agg [.t (.int .i64 r.kind), .t (.str r.name), .t (.sl true 3 (rw true r.args))]) []) {a0 : List Expr} {r : List Expr} (h : b_i_copyExprs rf_i_copyExpr a0 = some r) : Returns E 116 [.c (.t (.sl false 3 (rw false a0)))] [] (.c (.t (.sl true 3 (rw true r)))) [] := by
  unfold b_i_copyExprs at h
  refine fn_walk tb ([], []) ([0, 2, 3, 5, 6, 7, 8, 9], [(2, .slot 3, 0, .own 3)]) (fn := Try.f116) hmix htb Try.func116 rfl (by kernel_rfl) (by kernel_rfl) (Nat.le_of_ble_eq_true (by kernel_rfl)) rfl ?_
  intro ar cm sc bc nt ng ln sz tn idx get set vw rep nf dv ct wr bt bs us ur ap fl on mi mh ms mo mx mn R rz hπ hR hr
  have F := PF.of hπ
  try simp only [F.maddw, F.mlen q, F.mlti] at h
  cbv
  obtain ⟨rr1, hl1, h⟩ := bd h
  refine aloop_C hl1 [2, 3, 6, 7, 8] [] (fun (s : List Expr × Int) => match s with | (v7, v8) => (⟨[(2, .c (.t .nil)), (3, .c (.t (.sl true 3 (rw true v7)))), (6, .c (.t (.sl false 3 (rw false a0)))), (7, .c (.t (.int .i64 (ln (rw false a0))))), (8, .c (.t (.int .i64 v8)))], [], [], [], [], []⟩ : St)) (by first | rfl | (subst q; rfl)) ?_
  rintro ⟨v7, v8⟩ xx1 h16 hx1 K1 hn1 hq1 ht1
  try dsimp only at h16
  cbv
  split
  rotate_left
  · rename_i c17
    try rw [c17]
    rw [c17] at h16
    try dsimp only at h16
    cbv
    cases h16
    have e1 := hx1 _ rfl
    subst e1
    try dsimp only at h
    refine hq1 _ _ ?_
    cbv
    cases h
    first | exact ⟨hr.symm, trivial⟩ | (subst q; exact ⟨hr.symm, trivial⟩)
  rename_i c17
  try rw [c17]
  rw [c17] at h16
  try dsimp only at h16
  cbv
  obtain ⟨⟨x18_0, x18_1, x18_2⟩, h19, h16⟩ := bd h16
  try dsimp only at h16
  rw [(ix_Expr F q h19).1]
  cbv
  obtain ⟨⟨r21_1, r21_2, r21_3⟩, h20, h16⟩ := bd h16
  try dsimp only at h16
  have vh20 := hf_i_copyExpr h20
  dsimp only at vh20
  refine ⟨_, ⟨(hR ▸ vh20 : R _ _ _ _ _), rfl⟩, ?_⟩
  cbv
  rw [F.on]
  cbv
  obtain ⟨l22, h23, h16⟩ := bd h16
  rw [pu_Expr F q h23]
  cbv
  cases h16
  exact hn1 _ _ rfl (by first | rfl | (subst q; rfl))
noncomputable def b_i_copyExpr (rf_i_copyExpr : Expr → Option Expr) (a0 : Expr) : Option Expr :=
  (b_i_copyExprs rf_i_copyExpr a0.args).bind fun r2 => some (⟨a0.kind, a0.name, r2⟩)
theorem w_i_copyExpr {rw : RW} (q : @rw = @rows) {rf_i_copyExpr : Expr → Option Expr} (hf_i_copyExpr : ∀ {a0 : Expr} {r : Expr}, rf_i_copyExpr a0 = some r → Returns E 83 [.agg [.t (.int .i64 a0.kind), .t (.str a0.name), .t (.sl false 3 (rw false a0.args))]] [] (.agg [.t (.int .i64 r.kind), .t (.str r.name), .t (.sl true 3 (rw true r.args))]) []) {a0 : Expr} {r : Expr} (h : b_i_copyExpr rf_i_copyExpr a0 = some r) : Returns E 83 [.agg [.t (.int .i64 a0.kind), .t (.str a0.name), .t (.sl false 3 (rw false a0.args))]] [] (.agg [.t (.int .i64 r.kind), .t (.str r.name), .t (.sl true 3 (rw true r.args))]) [] := by
  unfold b_i_copyExpr at h
  obtain ⟨a0_0, a0_1, a0_2⟩ := a0
  dsimp only at h ⊢
  refine fn_walk tb ([], []) ([0, 1, 2], []) (fn := Try.f83) hmix htb Try.func83 rfl (by kernel_rfl) (by kernel_rfl) (Nat.le_of_ble_eq_true (by kernel_rfl)) rfl ?_
  intro ar cm sc bc nt ng ln sz tn idx get set vw rep nf dv ct wr bt bs us ur ap fl on mi mh ms mo mx mn R rz hπ hR hr
  have F := PF.of hπ
  cbv
  obtain ⟨r2_1, h1, h⟩ := bd h
  try dsimp only at h
  refine ⟨_, ⟨(hR ▸ w_i_copyExprs q hf_i_copyExpr h1 : R _ _ _ _ _), rfl⟩, ?_⟩
  cbv
  cases h
  first | exact ⟨hr.symm, trivial⟩ | (subst q; exact ⟨hr.symm, trivial⟩)

/-! ### The words, over lists -/
theorem loop_run {σ ρ : Type} {f : σ → Option (σ ⊕ ρ)} (S : Nat → σ) (n : Nat) {r : ρ} (h : ∀ i, i < n → f (S i) = some (.inl (S (i + 1)))) (hn : f (S n) = some (.inr r)) : loopC f (S 0) = some r := by
  have key : ∀ d i, i + d = n → Loop f (S i) r := by
    intro d
    induction d with
    | zero => intro i hi; obtain rfl : i = n := by omega
              exact .done hn
    | succ d ih => intro i hi; exact .step (h i (by omega)) (ih (i + 1) (by omega))
  exact (key n 0 (by omega)).eq
theorem len_I {α : Type} (l : List α) : len l = I l.length := rfl
theorem lti_I (a b : Nat) : lti (I a) (I b) = decide (a < b) := by simp [lti, I]
theorem lti_I0 (a : Nat) : lti (I a) 0 = false := decide_eq_false (by simp only [I]; omega)
theorem nth_I {α : Type} (l : List α) (i : Nat) : nth l (I i) = l[i]? := by simp [nth, I]
theorem addw_I {i : Nat} (h : i < 2 ^ 62) : addw (I i) 1 = I (i + 1) := by simp only [addw, I, IntKind.wrap_i64]; omega
theorem push_take {α : Type} (l : List α) (i : Nat) (hi : i < l.length) (hb : l.length ≤ 2 ^ 38) : push (l.take i) l[i] = some (l.take (i + 1)) := by
  unfold push
  rw [if_pos (by simp only [List.length_take]; show _ ≤ 2 ^ 38; omega), List.take_add_one, List.getElem?_eq_getElem hi]
  rfl
theorem app_nil {α : Type} (l : List α) (hb : l.length ≤ 2 ^ 38) : app [] l = some l := by
  unfold app
  rw [if_pos (by show 0 + l.length ≤ 2 ^ 38; omega)]
  rfl
theorem getE {α : Type} {l : List α} {i : Nat} (h : i < l.length) : l[i]? = some l[i] := List.getElem?_eq_getElem h

theorem totL_mem {α : Type} [G α] {l : List α} {x : α} (h : x ∈ l) (hb : totL l ≤ 2 ^ 38) : G.tot x ≤ 2 ^ 38 := Nat.le_trans (tot_mem h) hb
theorem len_le {α : Type} [G α] {l : List α} (hb : totL l ≤ 2 ^ 38) : l.length ≤ 2 ^ 38 := Nat.le_trans (len_tot l) hb

theorem p_copyExprs {F : Expr → Option Expr} {l : List Expr} (hF : ∀ x ∈ l, F x = some x) (hb : l.length ≤ 2 ^ 38) : b_i_copyExprs F l = some l := by
  unfold b_i_copyExprs
  refine (congrArg (Option.bind · _) (loop_run (fun i => (l.take i, I i)) l.length (r := l) (fun i hi => ?_) ?_)).trans rfl
  · simp only [len_I, lti_I, hi, decide_true, nth_I, getE hi, Option.bind_some, hF _ (List.getElem_mem hi), push_take l i hi hb, addw_I (show i < 2 ^ 62 by omega)]
  · simp only [len_I, lti_I, Nat.lt_irrefl, decide_false, List.take_length]

theorem p_l3Copy {F : Expr → Option Expr} {e : Expr} (hF : ∀ x ∈ e.args, F x = some x) (hb : e.args.length ≤ 2 ^ 38) : b_s_l3Copy F e = some e := by
  obtain ⟨ek, en, ea⟩ := e
  simp only at hF hb
  unfold b_s_l3Copy
  refine (congrArg (Option.bind · _) (loop_run (fun i => (I i, ea.take i)) ea.length (r := ea) (fun i hi => ?_) ?_)).trans rfl
  · simp only [len_I, lti_I, hi, decide_true, nth_I, getE hi, Option.bind_some, hF _ (List.getElem_mem hi), push_take ea i hi hb, addw_I (show i < 2 ^ 62 by omega)]
  · simp only [len_I, lti_I, Nat.lt_irrefl, decide_false, List.take_length]

open Classical in
/-- What the copies do: nothing. -/
noncomputable def k_cp (e : Expr) : Option Expr := if G.tot e ≤ 2 ^ 38 then some e else none

theorem ci_s_l3Copy {rw : RW} (q : @rw = @rows) : ∀ a0 : Expr, G.tot a0 ≤ 2 ^ 38 → Returns E 114 [.agg [.t (.int .i64 a0.kind), .t (.str a0.name), .t (.sl false 3 (rw false a0.args))]] [] (.agg [.t (.int .i64 a0.kind), .t (.str a0.name), .t (.sl true 3 (rw true a0.args))]) [] := by
  refine Expr.ind fun k n l ih hb => ?_
  rw [Expr.tot] at hb
  have h2 : totL l ≤ 2 ^ 38 := by simp only at hb; omega
  classical
  have e : b_s_l3Copy (fun x => if x ∈ l then some x else none) ⟨k, n, l⟩ = some ⟨k, n, l⟩ := by exact p_l3Copy (fun x hx => by rw [if_pos hx]) (len_le h2)
  refine w_s_l3Copy q (fun {a0 r} h => ?_) e
  have h : (if a0 ∈ l then some a0 else none) = some r := h
  split at h
  · rename_i hm
    cases h
    exact ih _ hm (totL_mem hm h2)
  · cases h
theorem cc_s_l3Copy {rw : RW} (q : @rw = @rows) {a0 r : Expr} (h : k_cp a0 = some r) : Returns E 114 [.agg [.t (.int .i64 a0.kind), .t (.str a0.name), .t (.sl false 3 (rw false a0.args))]] [] (.agg [.t (.int .i64 r.kind), .t (.str r.name), .t (.sl true 3 (rw true r.args))]) [] := by
  unfold k_cp at h
  split at h
  · rename_i hb
    cases h
    exact ci_s_l3Copy q _ hb
  · cases h

theorem ci_i_copyExpr {rw : RW} (q : @rw = @rows) : ∀ a0 : Expr, G.tot a0 ≤ 2 ^ 38 → Returns E 83 [.agg [.t (.int .i64 a0.kind), .t (.str a0.name), .t (.sl false 3 (rw false a0.args))]] [] (.agg [.t (.int .i64 a0.kind), .t (.str a0.name), .t (.sl true 3 (rw true a0.args))]) [] := by
  refine Expr.ind fun k n l ih hb => ?_
  rw [Expr.tot] at hb
  have h2 : totL l ≤ 2 ^ 38 := by simp only at hb; omega
  classical
  have e : b_i_copyExpr (fun x => if x ∈ l then some x else none) ⟨k, n, l⟩ = some ⟨k, n, l⟩ := by unfold b_i_copyExpr; rw [p_copyExprs (fun x hx => by rw [if_pos hx]) (len_le h2)]; rfl
  refine w_i_copyExpr q (fun {a0 r} h => ?_) e
  have h : (if a0 ∈ l then some a0 else none) = some r := h
  split at h
  · rename_i hm
    cases h
    exact ih _ hm (totL_mem hm h2)
  · cases h
theorem cc_i_copyExpr {rw : RW} (q : @rw = @rows) {a0 r : Expr} (h : k_cp a0 = some r) : Returns E 83 [.agg [.t (.int .i64 a0.kind), .t (.str a0.name), .t (.sl false 3 (rw false a0.args))]] [] (.agg [.t (.int .i64 r.kind), .t (.str r.name), .t (.sl true 3 (rw true r.args))]) [] := by
  unfold k_cp at h
  split at h
  · rename_i hb
    cases h
    exact ci_i_copyExpr q _ hb
  · cases h
end Vx.D.Ytbnagcgfmlmgnaa
