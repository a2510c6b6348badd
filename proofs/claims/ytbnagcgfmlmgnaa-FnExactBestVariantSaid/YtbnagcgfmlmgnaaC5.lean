import Derived.Test.YtbnagcgfmlmgnaaK
/- What the functions that measure, copy, compare and mark the data of a law return. No condition. -/
open Go Vx
namespace Vx.D.Ytbnagcgfmlmgnaa
open Go.Proofs
set_option maxRecDepth 100000
set_option maxHeartbeats 2000000
set_option linter.unusedVariables false
set_option linter.unusedSimpArgs false

theorem c_markText {k : Int} {m : Nat} (hkm : k = I m) (hm : m ≤ 2 ^ 62) : Returns E 47 [.c (.t (.int .i64 k))] [] (.c (.t (.str (mt m)))) [] := by
  have hk : k ≤ 2 ^ 62 := by rw [hkm]; simp only [I]; omega
  have hkn : k.toNat = m := by rw [hkm]; simp only [I]; omega
  refine fn_walk tb ([], []) ([0, 2, 3, 5, 7], []) (fn := Try.f47) hmix htb Try.func47 rfl (by kernel_rfl) (by kernel_rfl) (Nat.le_of_ble_eq_true (by kernel_rfl)) rfl ?_
  intro ar cm sc bc nt ng ln sz tn idx get set vw rep nf dv ct wr bt bs us ur ap fl on mi mh ms mo mx mn R r hπ hR hr
  have F := PF.of hπ
  cbv
  split
  · rename_i h
    simp only [F.leq, decide_eq_true_eq] at h
    cbv
    refine ⟨?_, trivial⟩
    rw [hr, mt, if_pos (by omega)]
  · rename_i h
    simp only [F.leq, decide_eq_false_iff_not] at h
    cbv
    refine aloop_inv [0, 2, 3] [] (fun (a : Nat × Int × ByteArray) => ⟨[(0, .c (.t (.int .i64 a.2.1))), (2, .c (.t (.str (ByteArray.mk #[])))), (3, .c (.t (.str a.2.2)))], [], [], [], [], []⟩)
      (fun a => a.2.1 = I a.1 ∧ a.2.2.size ≤ 63 ∧ a.1 < 2 ^ (63 - a.2.2.size) ∧ dig a.1 a.2.2 = dig k.toNat (ByteArray.mk #[])) (fun a => a.1) (k.toNat, k, ByteArray.mk #[])
      ⟨by simp only [I]; omega, Nat.zero_le _, ?_, rfl⟩ rfl ?_
    · show k.toNat < 2 ^ 63
      omega
    rintro ⟨n, u, out⟩ ⟨hu, hs, hn, hd⟩
    simp only at hu hs hn hd
    have hlt : n < 2 ^ 63 := Nat.lt_of_lt_of_le hn (Nat.pow_le_pow_right (by omega) (by omega))
    obtain ⟨q, hrem, hq⟩ : ∃ q, dv .rem .i64 u 10 = some q ∧ q = I (n % 10) := ⟨_, by rw [F.rem, if_pos (by decide)], by rw [hu]; rfl⟩
    obtain ⟨p, hquo, hp⟩ : ∃ p, dv .quo .i64 u 10 = some p ∧ p = I (n / 10) := ⟨_, by rw [F.quo, if_pos (by decide)], by
      rw [hu]
      have e : (I n).tdiv 10 = ((n / 10 : Nat) : Int) := rfl
      rw [e, IntKind.wrap_i64]
      simp only [I]
      omega⟩
    obtain ⟨b, hb, hb'⟩ : ∃ b, wr .u8 (ar .add .i64 48 q) = b ∧ b = I (48 + n % 10) := ⟨_, rfl, by
      rw [F.wr, F.add, hq]
      simp only [I, IntKind.wrap_i64]
      have e : (48 + ((n % 10 : Nat) : Int) + 9223372036854775808) % 18446744073709551616 - 9223372036854775808 = ((48 + n % 10 : Nat) : Int) := by omega
      rw [e]
      have e2 : ∀ m : Nat, m < 256 → IntKind.u8.wrap (m : Int) = m := by
        intro m hm
        simp [IntKind.wrap, IntKind.bits, IntKind.signed]
        omega
      exact e2 _ (by omega)⟩
    obtain ⟨x, hx, hx'⟩ : ∃ x, bs [[.int .u8 b]] = some x ∧ x = ByteArray.mk #[UInt8.ofNat (48 + n % 10)] := ⟨_, by rw [F.bs]; rfl, by rw [hb']; rfl⟩
    cbv
    split
    · rename_i hgt
      simp only [F.gtr, decide_eq_true_eq] at hgt
      have hpos : 0 < n := by rw [hu] at hgt; simp only [I] at hgt; omega
      have hs63 : out.size < 63 := by
        rcases Nat.lt_or_ge out.size 63 with h | h
        · exact h
        · have e : 63 - out.size = 0 := by omega
          rw [e] at hn
          omega
      obtain ⟨y, hy, hy'⟩ : ∃ y, ct x out = some y ∧ y = x ++ out := ⟨_, by rw [F.ct, if_pos (by rw [hx']; show 1 + out.size ≤ 2 ^ 38; omega)], rfl⟩
      cbv
      rw [hrem]
      cbv
      rw [hb]
      rw [hx]
      cbv
      rw [hy]
      cbv
      rw [hquo]
      cbv
      refine ⟨(n / 10, p, y), ⟨hp, ?_, ?_, ?_⟩, Nat.div_lt_self hpos (by omega), rfl⟩
      · rw [hy', ByteArray.size_append, hx']; show 1 + out.size ≤ 63; omega
      · have e : y.size = out.size + 1 := by rw [hy', ByteArray.size_append, hx']; show 1 + out.size = _; omega
        rw [e]
        have e2 : 63 - out.size = (63 - (out.size + 1)) + 1 := by omega
        rw [e2, Nat.pow_succ] at hn
        show n / 10 < _
        omega
      · show dig (n / 10) y = _
        rw [← hd, hy', hx']
        conv => rhs; rw [dig]
        rw [if_neg (by omega)]
    · rename_i hgt
      simp only [F.gtr, decide_eq_false_iff_not] at hgt
      have hz : n = 0 := by rw [hu] at hgt; simp only [I] at hgt; omega
      have hout : out = dig k.toNat (ByteArray.mk #[]) := by rw [← hd, hz, dig, if_pos rfl]
      obtain ⟨y, hy, hy'⟩ : ∃ y, ct (ByteArray.mk #[109]) out = some y ∧ y = (ByteArray.mk #[109]) ++ out := ⟨_, by rw [F.ct, if_pos (by show 1 + out.size ≤ 2 ^ 38; omega)], rfl⟩
      cbv
      rw [hy]
      cbv
      refine ⟨?_, trivial⟩
      rw [hr, mt, if_neg (by omega), hy', hout, hkn]

theorem c_markStringS {l : List ByteArray} {xs ys : List (List T)} {k : Nat} {u v : Int} (hx : rows true l = xs) (hy : rows true (mkL k l) = ys) (hu : u = I k) (hv : v = I (k + cntL l)) (hk : k + cntL l ≤ 2 ^ 62) (hb : totL l ≤ BIG) :
    Returns E 84 [.c (.ref ⟨.obj 0, 0, []⟩), .c (.t (.int .i64 u))] [.virt (.sl true 1 xs)] (.c (.t (.int .i64 v))) [.virt (.sl true 1 ys)] := by
  refine fn_walk tb ([], []) ([0, 1, 4, 5, 9], []) (fn := Try.f84) hmix htb Try.func84 rfl (by kernel_rfl) (by kernel_rfl) (Nat.le_of_ble_eq_true (by kernel_rfl)) rfl ?_
  intro ar cm sc bc nt ng ln sz tn idx get set vw rep nf dv ct wr bt bs us ur ap fl on mi mh ms mo mx mn R r hπ hR hr
  have F := PF.of hπ
  have hlen : ∀ i, ln (mkd k l i) = I l.length := fun i => by rw [F.ln, mkd_length]
  have hbl : l.length ≤ 9223372036854775807 := Nat.le_trans (len_tot l) hb
  cbv
  refine aloop_inv [0, 1, 4, 5] [] (fun (a : Nat × Int × Int × List (List T)) => ⟨[(0, .c (.ref ⟨.obj 0, 0, []⟩)), (1, .c (.t (.int .i64 a.2.2.1))), (4, .c (.t (.int .i64 0))), (5, .c (.t (.int .i64 a.2.1)))], [], [], [(0, .t (.sl true 1 a.2.2.2))], [], []⟩)
    (fun a => a.1 ≤ l.length ∧ a.2.1 = I a.1 ∧ a.2.2.1 = I (k + cntL (l.take a.1)) ∧ a.2.2.2 = mkd k l a.1) (fun a => l.length - a.1) (0, 0, u, xs)
    ⟨Nat.zero_le _, rfl, hu, by rw [mkd_zero, hx]⟩ rfl ?_
  rintro ⟨i, j, q, zs⟩ ⟨hi, hj, hq, hz⟩
  simp only at hi hj hq hz
  have hln : ln zs = I l.length := by rw [hz]; exact hlen i
  cbv
  split
  · rename_i hlt
    simp only [F.lss, hln, decide_eq_true_eq] at hlt
    have hil : i < l.length := by rw [hj] at hlt; simp only [I] at hlt; omega
    have hzl : i < zs.length := by rw [hz, mkd_length]; exact hil
    have hI0 : idx zs j = some (G.cells true l[i]) := by rw [F.idx, hj, hz]; simp only [I]; simp [mkd_get k l i hil]
    have hG0 : get zs (tn j) = some (G.cells true l[i]) := by rw [F.get, F.tn, hj, hz]; simp only [I]; simp [mkd_get k l i hil]
    have hI1 : ∀ r, idx (set zs (tn j) r) j = some r := fun r => by rw [F.idx, F.set, F.tn, hj]; simp only [I]; simp [hzl]
    have hG1 : ∀ r, get (set zs (tn j) r) (tn j) = some r := fun r => by rw [F.get, F.set, F.tn, hj]; simp only [I]; simp [hzl]
    have hS1 : ∀ r r', set (set zs (tn j) r) (tn j) r' = set zs (tn j) r' := fun r r' => by rw [F.set, F.set, F.set, F.tn, hj]; simp
    have hcs := cntL_succ l i hil
    have hcl := cntL_le l (i + 1)
    have hc9 : k + cntL (l.take (i + 1)) = k + cntL (l.take i) + Mk.cnt l[i] := by omega
    have hst : ∀ r, r = G.cells true (Mk.mark (k + cntL (l.take i)) l[i]) → set zs (tn j) r = mkd k l (i + 1) := by
      rintro r rfl
      rw [F.set, F.tn, hj, hz, ← mkd_set k l i hil]; simp only [I]; rfl
    have htot := tot_mem (List.getElem_mem hil)
    clear hcs
    generalize l[i] = e at hI0 hG0 hst hc9 htot
    generalize hn : k + cntL (l.take i) = n at *
    change idx zs j = some [.str e] at hI0
    change get zs (tn j) = some [.str e] at hG0
    change ∀ r, r = [.str (mt n)] → set zs (tn j) r = mkd k l (i + 1) at hst
    change k + cntL (l.take (i + 1)) = n + 1 at hc9
    have ht0 := c_markText hq (by omega)
    generalize hs0 : mt (n) = s0 at ht0 hst
    have hq0 : ar .add .i64 q 1 = I (n + 1) := by rw [hq]; simp only [F.add, IntKind.wrap_i64, I] at *; omega
    cbv
    refine ⟨_, ⟨(hR ▸ ht0 : R _ _ _ _ _), rfl⟩, ?_⟩
    cbv
    repeat (first | rw [hS1] | rw [hI0] | rw [hG0] | rw [hI1] | rw [hG1])
    cbv
    repeat (first | rw [hS1] | rw [hI0] | rw [hG0] | rw [hI1] | rw [hG1])
    cbv
    repeat (first | rw [hS1] | rw [hI0] | rw [hG0] | rw [hI1] | rw [hG1])
    refine ⟨(i + 1, ar .add .i64 j 1, ar .add .i64 q 1, set zs (tn j) [.str s0]), ⟨hil, ?_, ?_, hst [.str s0] rfl⟩, by show l.length - (i + 1) < l.length - i; omega, rfl⟩
    · simp only [F.add, IntKind.wrap_i64, hj, I] at *; omega
    · show ar .add .i64 q 1 = I _; rw [hq0, hc9]
  · rename_i hlt
    simp only [F.lss, hln, decide_eq_false_iff_not] at hlt
    have hil : i = l.length := by rw [hj] at hlt; simp only [I] at hlt; omega
    subst hil
    cbv
    refine ⟨?_, ?_, trivial⟩
    · rw [hr, hq, hv, List.take_length]
    · rw [hz, ← hy, mkd_all]

theorem q_markExprS {l : List Expr} {xs ys : List (List T)} {k : Nat} {u v : Int} (hx : rows true l = xs) (hy : rows true (mkL k l) = ys) (hu : u = I k) (hv : v = I (k + cntL l)) (hk : k + cntL l ≤ 2 ^ 62) (hb : totL l ≤ BIG)
    (ih : ∀ x ∈ l, ∀ (xs ys : List (List T)) (k : Nat) (u v : Int), rows true x.args = xs → rows true (mkL k x.args) = ys → u = I k → v = I (k + cntL x.args) → k + cntL x.args ≤ 2 ^ 62 → totL x.args ≤ BIG → Returns E 48 [.c (.ref ⟨.obj 0, 0, []⟩), .c (.t (.int .i64 u))] [.virt (.sl true 3 xs)] (.c (.t (.int .i64 v))) [.virt (.sl true 3 ys)]) :
    Returns E 48 [.c (.ref ⟨.obj 0, 0, []⟩), .c (.t (.int .i64 u))] [.virt (.sl true 3 xs)] (.c (.t (.int .i64 v))) [.virt (.sl true 3 ys)] := by
  refine fn_walk tb ([48], []) ([0, 1, 4, 5, 9], []) (fn := Try.f48) hmix htb Try.func48 rfl (by kernel_rfl) (by kernel_rfl) (Nat.le_of_ble_eq_true (by kernel_rfl)) rfl ?_
  intro ar cm sc bc nt ng ln sz tn idx get set vw rep nf dv ct wr bt bs us ur ap fl on mi mh ms mo mx mn R r hπ hR hr
  have F := PF.of hπ
  have hlen : ∀ i, ln (mkd k l i) = I l.length := fun i => by rw [F.ln, mkd_length]
  have hbl : l.length ≤ 9223372036854775807 := Nat.le_trans (len_tot l) hb
  cbv
  refine aloop_inv [0, 1, 4, 5] [] (fun (a : Nat × Int × Int × List (List T)) => ⟨[(0, .c (.ref ⟨.obj 0, 0, []⟩)), (1, .c (.t (.int .i64 a.2.2.1))), (4, .c (.t (.int .i64 0))), (5, .c (.t (.int .i64 a.2.1)))], [], [], [(0, .t (.sl true 3 a.2.2.2))], [], []⟩)
    (fun a => a.1 ≤ l.length ∧ a.2.1 = I a.1 ∧ a.2.2.1 = I (k + cntL (l.take a.1)) ∧ a.2.2.2 = mkd k l a.1) (fun a => l.length - a.1) (0, 0, u, xs)
    ⟨Nat.zero_le _, rfl, hu, by rw [mkd_zero, hx]⟩ rfl ?_
  rintro ⟨i, j, q, zs⟩ ⟨hi, hj, hq, hz⟩
  simp only at hi hj hq hz
  have hln : ln zs = I l.length := by rw [hz]; exact hlen i
  cbv
  split
  · rename_i hlt
    simp only [F.lss, hln, decide_eq_true_eq] at hlt
    have hil : i < l.length := by rw [hj] at hlt; simp only [I] at hlt; omega
    have hzl : i < zs.length := by rw [hz, mkd_length]; exact hil
    have hI0 : idx zs j = some (G.cells true l[i]) := by rw [F.idx, hj, hz]; simp only [I]; simp [mkd_get k l i hil]
    have hG0 : get zs (tn j) = some (G.cells true l[i]) := by rw [F.get, F.tn, hj, hz]; simp only [I]; simp [mkd_get k l i hil]
    have hI1 : ∀ r, idx (set zs (tn j) r) j = some r := fun r => by rw [F.idx, F.set, F.tn, hj]; simp only [I]; simp [hzl]
    have hG1 : ∀ r, get (set zs (tn j) r) (tn j) = some r := fun r => by rw [F.get, F.set, F.tn, hj]; simp only [I]; simp [hzl]
    have hS1 : ∀ r r', set (set zs (tn j) r) (tn j) r' = set zs (tn j) r' := fun r r' => by rw [F.set, F.set, F.set, F.tn, hj]; simp
    have hcs := cntL_succ l i hil
    have hcl := cntL_le l (i + 1)
    have hc9 : k + cntL (l.take (i + 1)) = k + cntL (l.take i) + Mk.cnt l[i] := by omega
    have hst : ∀ r, r = G.cells true (Mk.mark (k + cntL (l.take i)) l[i]) → set zs (tn j) r = mkd k l (i + 1) := by
      rintro r rfl
      rw [F.set, F.tn, hj, hz, ← mkd_set k l i hil]; simp only [I]; rfl
    have htot := tot_mem (List.getElem_mem hil)
    have hih := ih l[i] (List.getElem_mem hil)
    clear hcs
    generalize l[i] = e at hI0 hG0 hst hc9 htot hih
    obtain ⟨a0, a1, a2⟩ := e
    generalize hn : k + cntL (l.take i) = n at *
    rw [Expr.cells] at hI0 hG0
    rw [Expr.markc] at hst
    rw [Expr.cntc] at hc9
    rw [Expr.tot] at htot
    simp only at hI0 hG0 hst htot hih
    generalize hxa2 : rows true a2 = xa2 at hI0 hG0
    have hq0 : ar .add .i64 q 1 = I (n + 1) := by rw [hq]; simp only [F.add, IntKind.wrap_i64, I] at *; omega
    have ht1 := c_markText hq0 (by omega)
    generalize hs1 : mt (n + 1) = s1 at ht1 hst
    have hq1 : ar .add .i64 (ar .add .i64 q 1) 1 = I (n + 2) := by rw [hq0]; simp only [F.add, IntKind.wrap_i64, I] at *; omega
    have hc2 := hih _ _ (n + 2) (ar .add .i64 (ar .add .i64 q 1) 1) _ hxa2 rfl hq1 rfl (by omega) (by show totL a2 ≤ 9223372036854775807; omega)
    generalize hya2 : rows true (mkL (n + 2) a2) = ya2 at hc2 hst
    generalize hva2 : I (n + 2 + cntL a2) = va2 at hc2
    have hq2 : va2 = I (n + (2 + cntL a2)) := hva2.symm.trans (congrArg I (by omega))
    cbv
    repeat (first | rw [hS1] | rw [hI0] | rw [hG0] | rw [hI1] | rw [hG1])
    cbv
    repeat (first | rw [hS1] | rw [hI0] | rw [hG0] | rw [hI1] | rw [hG1])
    cbv
    repeat (first | rw [hS1] | rw [hI0] | rw [hG0] | rw [hI1] | rw [hG1])
    cbv
    refine ⟨_, ⟨(hR ▸ ht1 : R _ _ _ _ _), rfl⟩, ?_⟩
    cbv
    repeat (first | rw [hS1] | rw [hI0] | rw [hG0] | rw [hI1] | rw [hG1])
    cbv
    repeat (first | rw [hS1] | rw [hI0] | rw [hG0] | rw [hI1] | rw [hG1])
    cbv
    repeat (first | rw [hS1] | rw [hI0] | rw [hG0] | rw [hI1] | rw [hG1])
    cbv
    repeat (first | rw [hS1] | rw [hI0] | rw [hG0] | rw [hI1] | rw [hG1])
    cbv
    repeat (first | rw [hS1] | rw [hI0] | rw [hG0] | rw [hI1] | rw [hG1])
    cbv
    repeat (first | rw [hS1] | rw [hI0] | rw [hG0] | rw [hI1] | rw [hG1])
    cbv
    repeat (first | rw [hS1] | rw [hI0] | rw [hG0] | rw [hI1] | rw [hG1])
    cbv
    refine ⟨_, [.sl true 3 ya2], ⟨(hR ▸ hc2 : R _ _ _ _ _), rfl⟩, ?_⟩
    cbv
    repeat (first | rw [hS1] | rw [hI0] | rw [hG0] | rw [hI1] | rw [hG1])
    cbv
    repeat (first | rw [hS1] | rw [hI0] | rw [hG0] | rw [hI1] | rw [hG1])
    refine ⟨(i + 1, ar .add .i64 j 1, va2, set (set zs (tn j) [.int .i64 q, .str s1, .sl true 3 xa2]) (tn j) [.int .i64 q, .str s1, .sl true 3 ya2]), ⟨hil, ?_, ?_, (hS1 _ _).trans (hst [.int .i64 q, .str s1, .sl true 3 ya2] (by rw [hq]))⟩, by show l.length - (i + 1) < l.length - i; omega, rfl⟩
    · simp only [F.add, IntKind.wrap_i64, hj, I] at *; omega
    · show va2 = I _; rw [hq2, hc9]
  · rename_i hlt
    simp only [F.lss, hln, decide_eq_false_iff_not] at hlt
    have hil : i = l.length := by rw [hj] at hlt; simp only [I] at hlt; omega
    subst hil
    cbv
    refine ⟨?_, ?_, trivial⟩
    · rw [hr, hq, hv, List.take_length]
    · rw [hz, ← hy, mkd_all]

theorem c_markExprS0 : ∀ (e : Expr) (xs ys : List (List T)) (k : Nat) (u v : Int), rows true e.args = xs → rows true (mkL k e.args) = ys → u = I k → v = I (k + cntL e.args) → k + cntL e.args ≤ 2 ^ 62 → totL e.args ≤ BIG →
    Returns E 48 [.c (.ref ⟨.obj 0, 0, []⟩), .c (.t (.int .i64 u))] [.virt (.sl true 3 xs)] (.c (.t (.int .i64 v))) [.virt (.sl true 3 ys)] :=
  Expr.ind fun _ _ es ih xs ys k u v h1 h2 h3 h4 h5 h6 => q_markExprS h1 h2 h3 h4 h5 h6 ih
theorem c_markExprS {l : List Expr} {xs ys : List (List T)} {k : Nat} {u v : Int} (hx : rows true l = xs) (hy : rows true (mkL k l) = ys) (hu : u = I k) (hv : v = I (k + cntL l)) (hk : k + cntL l ≤ 2 ^ 62) (hb : totL l ≤ BIG) :
    Returns E 48 [.c (.ref ⟨.obj 0, 0, []⟩), .c (.t (.int .i64 u))] [.virt (.sl true 3 xs)] (.c (.t (.int .i64 v))) [.virt (.sl true 3 ys)] := q_markExprS hx hy hu hv hk hb fun x _ => c_markExprS0 x

theorem c_markRuleS {l : List Rule} {xs ys : List (List T)} {k : Nat} {u v : Int} (hx : rows true l = xs) (hy : rows true (mkL k l) = ys) (hu : u = I k) (hv : v = I (k + cntL l)) (hk : k + cntL l ≤ 2 ^ 62) (hb : totL l ≤ BIG) :
    Returns E 46 [.c (.ref ⟨.obj 0, 0, []⟩), .c (.t (.int .i64 u))] [.virt (.sl true 7 xs)] (.c (.t (.int .i64 v))) [.virt (.sl true 7 ys)] := by
  refine fn_walk tb ([48, 84], []) ([0, 1, 4, 5, 9], []) (fn := Try.f46) hmix htb Try.func46 rfl (by kernel_rfl) (by kernel_rfl) (Nat.le_of_ble_eq_true (by kernel_rfl)) rfl ?_
  intro ar cm sc bc nt ng ln sz tn idx get set vw rep nf dv ct wr bt bs us ur ap fl on mi mh ms mo mx mn R r hπ hR hr
  have F := PF.of hπ
  have hlen : ∀ i, ln (mkd k l i) = I l.length := fun i => by rw [F.ln, mkd_length]
  have hbl : l.length ≤ 9223372036854775807 := Nat.le_trans (len_tot l) hb
  cbv
  refine aloop_inv [0, 1, 4, 5] [] (fun (a : Nat × Int × Int × List (List T)) => ⟨[(0, .c (.ref ⟨.obj 0, 0, []⟩)), (1, .c (.t (.int .i64 a.2.2.1))), (4, .c (.t (.int .i64 0))), (5, .c (.t (.int .i64 a.2.1)))], [], [], [(0, .t (.sl true 7 a.2.2.2))], [], []⟩)
    (fun a => a.1 ≤ l.length ∧ a.2.1 = I a.1 ∧ a.2.2.1 = I (k + cntL (l.take a.1)) ∧ a.2.2.2 = mkd k l a.1) (fun a => l.length - a.1) (0, 0, u, xs)
    ⟨Nat.zero_le _, rfl, hu, by rw [mkd_zero, hx]⟩ rfl ?_
  rintro ⟨i, j, q, zs⟩ ⟨hi, hj, hq, hz⟩
  simp only at hi hj hq hz
  have hln : ln zs = I l.length := by rw [hz]; exact hlen i
  cbv
  split
  · rename_i hlt
    simp only [F.lss, hln, decide_eq_true_eq] at hlt
    have hil : i < l.length := by rw [hj] at hlt; simp only [I] at hlt; omega
    have hzl : i < zs.length := by rw [hz, mkd_length]; exact hil
    have hI0 : idx zs j = some (G.cells true l[i]) := by rw [F.idx, hj, hz]; simp only [I]; simp [mkd_get k l i hil]
    have hG0 : get zs (tn j) = some (G.cells true l[i]) := by rw [F.get, F.tn, hj, hz]; simp only [I]; simp [mkd_get k l i hil]
    have hI1 : ∀ r, idx (set zs (tn j) r) j = some r := fun r => by rw [F.idx, F.set, F.tn, hj]; simp only [I]; simp [hzl]
    have hG1 : ∀ r, get (set zs (tn j) r) (tn j) = some r := fun r => by rw [F.get, F.set, F.tn, hj]; simp only [I]; simp [hzl]
    have hS1 : ∀ r r', set (set zs (tn j) r) (tn j) r' = set zs (tn j) r' := fun r r' => by rw [F.set, F.set, F.set, F.tn, hj]; simp
    have hcs := cntL_succ l i hil
    have hcl := cntL_le l (i + 1)
    have hc9 : k + cntL (l.take (i + 1)) = k + cntL (l.take i) + Mk.cnt l[i] := by omega
    have hst : ∀ r, r = G.cells true (Mk.mark (k + cntL (l.take i)) l[i]) → set zs (tn j) r = mkd k l (i + 1) := by
      rintro r rfl
      rw [F.set, F.tn, hj, hz, ← mkd_set k l i hil]; simp only [I]; rfl
    have htot := tot_mem (List.getElem_mem hil)
    clear hcs
    generalize l[i] = e at hI0 hG0 hst hc9 htot
    obtain ⟨a0, a1, a2, a3, ⟨a4, a5, a6⟩⟩ := e
    generalize hn : k + cntL (l.take i) = n at *
    rw [Rule.cells] at hI0 hG0
    rw [Rule.markc] at hst
    rw [Rule.cntc] at hc9
    simp only [Rule.tot, Expr.tot] at htot
    simp only at hI0 hG0 hst htot
    generalize hxa2 : rows true a2 = xa2 at hI0 hG0
    generalize hxa3 : rows true a3 = xa3 at hI0 hG0
    generalize hxa6 : rows true a6 = xa6 at hI0 hG0
    have ht0 := c_markText hq (by omega)
    generalize hs0 : mt (n) = s0 at ht0 hst
    have hq0 : ar .add .i64 q 1 = I (n + 1) := by rw [hq]; simp only [F.add, IntKind.wrap_i64, I] at *; omega
    have ht1 := c_markText hq0 (by omega)
    generalize hs1 : mt (n + 1) = s1 at ht1 hst
    have hq1 : ar .add .i64 (ar .add .i64 q 1) 1 = I (n + 1 + 1) := by rw [hq0]; simp only [F.add, IntKind.wrap_i64, I] at *; omega
    have hc2 := c_markStringS hxa2 rfl hq1 rfl (by omega) (by show totL a2 ≤ 9223372036854775807; omega)
    generalize hya2 : rows true (mkL (n + 1 + 1) a2) = ya2 at hc2 hst
    generalize hva2 : I (n + 1 + 1 + cntL a2) = va2 at hc2
    have hq2 : va2 = I (n + 1 + 1 + cntL a2) := hva2.symm.trans (congrArg I (by omega))
    have hc3 := c_markStringS hxa3 rfl hq2 rfl (by omega) (by show totL a3 ≤ 9223372036854775807; omega)
    generalize hya3 : rows true (mkL (n + 1 + 1 + cntL a2) a3) = ya3 at hc3 hst
    generalize hva3 : I (n + 1 + 1 + cntL a2 + cntL a3) = va3 at hc3
    have hq3 : va3 = I (n + 1 + 1 + cntL a2 + cntL a3) := hva3.symm.trans (congrArg I (by omega))
    have hq4 : ar .add .i64 va3 1 = I (n + 1 + 1 + cntL a2 + cntL a3 + 1) := by rw [hq3]; simp only [F.add, IntKind.wrap_i64, I] at *; omega
    have ht5 := c_markText hq4 (by omega)
    generalize hs5 : mt (n + 1 + 1 + cntL a2 + cntL a3 + 1) = s5 at ht5 hst
    have hq5 : ar .add .i64 (ar .add .i64 va3 1) 1 = I (n + 1 + 1 + cntL a2 + cntL a3 + 2) := by rw [hq4]; simp only [F.add, IntKind.wrap_i64, I] at *; omega
    have hc6 := c_markExprS hxa6 rfl hq5 rfl (by omega) (by show totL a6 ≤ 9223372036854775807; omega)
    generalize hya6 : rows true (mkL (n + 1 + 1 + cntL a2 + cntL a3 + 2) a6) = ya6 at hc6 hst
    generalize hva6 : I (n + 1 + 1 + cntL a2 + cntL a3 + 2 + cntL a6) = va6 at hc6
    have hq6 : va6 = I (n + (1 + 1 + cntL a2 + cntL a3 + (2 + cntL a6))) := hva6.symm.trans (congrArg I (by omega))
    cbv
    refine ⟨_, ⟨(hR ▸ ht0 : R _ _ _ _ _), rfl⟩, ?_⟩
    cbv
    repeat (first | rw [hS1] | rw [hI0] | rw [hG0] | rw [hI1] | rw [hG1])
    cbv
    repeat (first | rw [hS1] | rw [hI0] | rw [hG0] | rw [hI1] | rw [hG1])
    cbv
    repeat (first | rw [hS1] | rw [hI0] | rw [hG0] | rw [hI1] | rw [hG1])
    cbv
    refine ⟨_, ⟨(hR ▸ ht1 : R _ _ _ _ _), rfl⟩, ?_⟩
    cbv
    repeat (first | rw [hS1] | rw [hI0] | rw [hG0] | rw [hI1] | rw [hG1])
    cbv
    repeat (first | rw [hS1] | rw [hI0] | rw [hG0] | rw [hI1] | rw [hG1])
    cbv
    repeat (first | rw [hS1] | rw [hI0] | rw [hG0] | rw [hI1] | rw [hG1])
    cbv
    repeat (first | rw [hS1] | rw [hI0] | rw [hG0] | rw [hI1] | rw [hG1])
    cbv
    repeat (first | rw [hS1] | rw [hI0] | rw [hG0] | rw [hI1] | rw [hG1])
    cbv
    repeat (first | rw [hS1] | rw [hI0] | rw [hG0] | rw [hI1] | rw [hG1])
    cbv
    repeat (first | rw [hS1] | rw [hI0] | rw [hG0] | rw [hI1] | rw [hG1])
    cbv
    refine ⟨_, [.sl true 1 ya2], ⟨(hR ▸ hc2 : R _ _ _ _ _), rfl⟩, ?_⟩
    cbv
    repeat (first | rw [hS1] | rw [hI0] | rw [hG0] | rw [hI1] | rw [hG1])
    cbv
    repeat (first | rw [hS1] | rw [hI0] | rw [hG0] | rw [hI1] | rw [hG1])
    cbv
    repeat (first | rw [hS1] | rw [hI0] | rw [hG0] | rw [hI1] | rw [hG1])
    cbv
    repeat (first | rw [hS1] | rw [hI0] | rw [hG0] | rw [hI1] | rw [hG1])
    cbv
    repeat (first | rw [hS1] | rw [hI0] | rw [hG0] | rw [hI1] | rw [hG1])
    cbv
    refine ⟨_, [.sl true 1 ya3], ⟨(hR ▸ hc3 : R _ _ _ _ _), rfl⟩, ?_⟩
    cbv
    repeat (first | rw [hS1] | rw [hI0] | rw [hG0] | rw [hI1] | rw [hG1])
    cbv
    repeat (first | rw [hS1] | rw [hI0] | rw [hG0] | rw [hI1] | rw [hG1])
    cbv
    repeat (first | rw [hS1] | rw [hI0] | rw [hG0] | rw [hI1] | rw [hG1])
    cbv
    repeat (first | rw [hS1] | rw [hI0] | rw [hG0] | rw [hI1] | rw [hG1])
    cbv
    refine ⟨_, ⟨(hR ▸ ht5 : R _ _ _ _ _), rfl⟩, ?_⟩
    cbv
    repeat (first | rw [hS1] | rw [hI0] | rw [hG0] | rw [hI1] | rw [hG1])
    cbv
    repeat (first | rw [hS1] | rw [hI0] | rw [hG0] | rw [hI1] | rw [hG1])
    cbv
    repeat (first | rw [hS1] | rw [hI0] | rw [hG0] | rw [hI1] | rw [hG1])
    cbv
    repeat (first | rw [hS1] | rw [hI0] | rw [hG0] | rw [hI1] | rw [hG1])
    cbv
    repeat (first | rw [hS1] | rw [hI0] | rw [hG0] | rw [hI1] | rw [hG1])
    cbv
    repeat (first | rw [hS1] | rw [hI0] | rw [hG0] | rw [hI1] | rw [hG1])
    cbv
    repeat (first | rw [hS1] | rw [hI0] | rw [hG0] | rw [hI1] | rw [hG1])
    cbv
    refine ⟨_, [.sl true 3 ya6], ⟨(hR ▸ hc6 : R _ _ _ _ _), rfl⟩, ?_⟩
    cbv
    repeat (first | rw [hS1] | rw [hI0] | rw [hG0] | rw [hI1] | rw [hG1])
    cbv
    repeat (first | rw [hS1] | rw [hI0] | rw [hG0] | rw [hI1] | rw [hG1])
    refine ⟨(i + 1, ar .add .i64 j 1, va6, set (set zs (tn j) [.str s0, .str s1, .sl true 1 ya2, .sl true 1 ya3, .int .i64 va3, .str s5, .sl true 3 xa6]) (tn j) [.str s0, .str s1, .sl true 1 ya2, .sl true 1 ya3, .int .i64 va3, .str s5, .sl true 3 ya6]), ⟨hil, ?_, ?_, (hS1 _ _).trans (hst [.str s0, .str s1, .sl true 1 ya2, .sl true 1 ya3, .int .i64 va3, .str s5, .sl true 3 ya6] (by rw [hq3]))⟩, by show l.length - (i + 1) < l.length - i; omega, rfl⟩
    · simp only [F.add, IntKind.wrap_i64, hj, I] at *; omega
    · show va6 = I _; rw [hq6, hc9]
  · rename_i hlt
    simp only [F.lss, hln, decide_eq_false_iff_not] at hlt
    have hil : i = l.length := by rw [hj] at hlt; simp only [I] at hlt; omega
    subst hil
    cbv
    refine ⟨?_, ?_, trivial⟩
    · rw [hr, hq, hv, List.take_length]
    · rw [hz, ← hy, mkd_all]

theorem c_markVariantS {l : List Variant} {xs ys : List (List T)} {k : Nat} {u v : Int} (hx : rows true l = xs) (hy : rows true (mkL k l) = ys) (hu : u = I k) (hv : v = I (k + cntL l)) (hk : k + cntL l ≤ 2 ^ 62) (hb : totL l ≤ BIG) :
    Returns E 18 [.c (.ref ⟨.obj 0, 0, []⟩), .c (.t (.int .i64 u))] [.virt (.sl true 7 xs)] (.c (.t (.int .i64 v))) [.virt (.sl true 7 ys)] := by
  refine fn_walk tb ([46, 48], []) ([0, 1, 4, 5, 9], []) (fn := Try.f18) hmix htb Try.func18 rfl (by kernel_rfl) (by kernel_rfl) (Nat.le_of_ble_eq_true (by kernel_rfl)) rfl ?_
  intro ar cm sc bc nt ng ln sz tn idx get set vw rep nf dv ct wr bt bs us ur ap fl on mi mh ms mo mx mn R r hπ hR hr
  have F := PF.of hπ
  have hlen : ∀ i, ln (mkd k l i) = I l.length := fun i => by rw [F.ln, mkd_length]
  have hbl : l.length ≤ 9223372036854775807 := Nat.le_trans (len_tot l) hb
  cbv
  refine aloop_inv [0, 1, 4, 5] [] (fun (a : Nat × Int × Int × List (List T)) => ⟨[(0, .c (.ref ⟨.obj 0, 0, []⟩)), (1, .c (.t (.int .i64 a.2.2.1))), (4, .c (.t (.int .i64 0))), (5, .c (.t (.int .i64 a.2.1)))], [], [], [(0, .t (.sl true 7 a.2.2.2))], [], []⟩)
    (fun a => a.1 ≤ l.length ∧ a.2.1 = I a.1 ∧ a.2.2.1 = I (k + cntL (l.take a.1)) ∧ a.2.2.2 = mkd k l a.1) (fun a => l.length - a.1) (0, 0, u, xs)
    ⟨Nat.zero_le _, rfl, hu, by rw [mkd_zero, hx]⟩ rfl ?_
  rintro ⟨i, j, q, zs⟩ ⟨hi, hj, hq, hz⟩
  simp only at hi hj hq hz
  have hln : ln zs = I l.length := by rw [hz]; exact hlen i
  cbv
  split
  · rename_i hlt
    simp only [F.lss, hln, decide_eq_true_eq] at hlt
    have hil : i < l.length := by rw [hj] at hlt; simp only [I] at hlt; omega
    have hzl : i < zs.length := by rw [hz, mkd_length]; exact hil
    have hI0 : idx zs j = some (G.cells true l[i]) := by rw [F.idx, hj, hz]; simp only [I]; simp [mkd_get k l i hil]
    have hG0 : get zs (tn j) = some (G.cells true l[i]) := by rw [F.get, F.tn, hj, hz]; simp only [I]; simp [mkd_get k l i hil]
    have hI1 : ∀ r, idx (set zs (tn j) r) j = some r := fun r => by rw [F.idx, F.set, F.tn, hj]; simp only [I]; simp [hzl]
    have hG1 : ∀ r, get (set zs (tn j) r) (tn j) = some r := fun r => by rw [F.get, F.set, F.tn, hj]; simp only [I]; simp [hzl]
    have hS1 : ∀ r r', set (set zs (tn j) r) (tn j) r' = set zs (tn j) r' := fun r r' => by rw [F.set, F.set, F.set, F.tn, hj]; simp
    have hcs := cntL_succ l i hil
    have hcl := cntL_le l (i + 1)
    have hc9 : k + cntL (l.take (i + 1)) = k + cntL (l.take i) + Mk.cnt l[i] := by omega
    have hst : ∀ r, r = G.cells true (Mk.mark (k + cntL (l.take i)) l[i]) → set zs (tn j) r = mkd k l (i + 1) := by
      rintro r rfl
      rw [F.set, F.tn, hj, hz, ← mkd_set k l i hil]; simp only [I]; rfl
    have htot := tot_mem (List.getElem_mem hil)
    clear hcs
    generalize l[i] = e at hI0 hG0 hst hc9 htot
    obtain ⟨a0, ⟨⟨a1⟩, ⟨a2, a3, a4⟩⟩, a5, a6⟩ := e
    generalize hn : k + cntL (l.take i) = n at *
    rw [Variant.cells] at hI0 hG0
    rw [Variant.markc] at hst
    rw [Variant.cntc] at hc9
    simp only [Variant.tot, Residual.tot, Program.tot, Expr.tot] at htot
    simp only at hI0 hG0 hst htot
    generalize hxa1 : rows true a1 = xa1 at hI0 hG0
    generalize hxa4 : rows true a4 = xa4 at hI0 hG0
    have hq0 : ar .add .i64 q 1 = I (n + 1) := by rw [hq]; simp only [F.add, IntKind.wrap_i64, I] at *; omega
    have hc1 := c_markRuleS hxa1 rfl hq0 rfl (by omega) (by show totL a1 ≤ 9223372036854775807; omega)
    generalize hya1 : rows true (mkL (n + 1) a1) = ya1 at hc1 hst
    generalize hva1 : I (n + 1 + cntL a1) = va1 at hc1
    have hq1 : va1 = I (n + 1 + cntL a1) := hva1.symm.trans (congrArg I (by omega))
    have hq2 : ar .add .i64 va1 1 = I (n + 1 + cntL a1 + 1) := by rw [hq1]; simp only [F.add, IntKind.wrap_i64, I] at *; omega
    have ht3 := c_markText hq2 (by omega)
    generalize hs3 : mt (n + 1 + cntL a1 + 1) = s3 at ht3 hst
    have hq3 : ar .add .i64 (ar .add .i64 va1 1) 1 = I (n + 1 + cntL a1 + 2) := by rw [hq2]; simp only [F.add, IntKind.wrap_i64, I] at *; omega
    have hc4 := c_markExprS hxa4 rfl hq3 rfl (by omega) (by show totL a4 ≤ 9223372036854775807; omega)
    generalize hya4 : rows true (mkL (n + 1 + cntL a1 + 2) a4) = ya4 at hc4 hst
    generalize hva4 : I (n + 1 + cntL a1 + 2 + cntL a4) = va4 at hc4
    have hq4 : va4 = I (n + 1 + cntL a1 + (2 + cntL a4)) := hva4.symm.trans (congrArg I (by omega))
    have hq5 : ar .add .i64 va4 1 = I (n + 1 + cntL a1 + (2 + cntL a4) + 1) := by rw [hq4]; simp only [F.add, IntKind.wrap_i64, I] at *; omega
    have hq6 : ar .add .i64 (ar .add .i64 va4 1) 1 = I (n + (1 + cntL a1 + (2 + cntL a4) + 1 + 1)) := by rw [hq5]; simp only [F.add, IntKind.wrap_i64, I] at *; omega
    cbv
    repeat (first | rw [hS1] | rw [hI0] | rw [hG0] | rw [hI1] | rw [hG1])
    cbv
    repeat (first | rw [hS1] | rw [hI0] | rw [hG0] | rw [hI1] | rw [hG1])
    cbv
    repeat (first | rw [hS1] | rw [hI0] | rw [hG0] | rw [hI1] | rw [hG1])
    cbv
    repeat (first | rw [hS1] | rw [hI0] | rw [hG0] | rw [hI1] | rw [hG1])
    cbv
    repeat (first | rw [hS1] | rw [hI0] | rw [hG0] | rw [hI1] | rw [hG1])
    cbv
    repeat (first | rw [hS1] | rw [hI0] | rw [hG0] | rw [hI1] | rw [hG1])
    cbv
    repeat (first | rw [hS1] | rw [hI0] | rw [hG0] | rw [hI1] | rw [hG1])
    cbv
    refine ⟨_, [.sl true 7 ya1], ⟨(hR ▸ hc1 : R _ _ _ _ _), rfl⟩, ?_⟩
    cbv
    repeat (first | rw [hS1] | rw [hI0] | rw [hG0] | rw [hI1] | rw [hG1])
    cbv
    repeat (first | rw [hS1] | rw [hI0] | rw [hG0] | rw [hI1] | rw [hG1])
    cbv
    repeat (first | rw [hS1] | rw [hI0] | rw [hG0] | rw [hI1] | rw [hG1])
    cbv
    repeat (first | rw [hS1] | rw [hI0] | rw [hG0] | rw [hI1] | rw [hG1])
    cbv
    refine ⟨_, ⟨(hR ▸ ht3 : R _ _ _ _ _), rfl⟩, ?_⟩
    cbv
    repeat (first | rw [hS1] | rw [hI0] | rw [hG0] | rw [hI1] | rw [hG1])
    cbv
    repeat (first | rw [hS1] | rw [hI0] | rw [hG0] | rw [hI1] | rw [hG1])
    cbv
    repeat (first | rw [hS1] | rw [hI0] | rw [hG0] | rw [hI1] | rw [hG1])
    cbv
    repeat (first | rw [hS1] | rw [hI0] | rw [hG0] | rw [hI1] | rw [hG1])
    cbv
    repeat (first | rw [hS1] | rw [hI0] | rw [hG0] | rw [hI1] | rw [hG1])
    cbv
    repeat (first | rw [hS1] | rw [hI0] | rw [hG0] | rw [hI1] | rw [hG1])
    cbv
    repeat (first | rw [hS1] | rw [hI0] | rw [hG0] | rw [hI1] | rw [hG1])
    cbv
    refine ⟨_, [.sl true 3 ya4], ⟨(hR ▸ hc4 : R _ _ _ _ _), rfl⟩, ?_⟩
    cbv
    repeat (first | rw [hS1] | rw [hI0] | rw [hG0] | rw [hI1] | rw [hG1])
    cbv
    repeat (first | rw [hS1] | rw [hI0] | rw [hG0] | rw [hI1] | rw [hG1])
    cbv
    repeat (first | rw [hS1] | rw [hI0] | rw [hG0] | rw [hI1] | rw [hG1])
    cbv
    repeat (first | rw [hS1] | rw [hI0] | rw [hG0] | rw [hI1] | rw [hG1])
    cbv
    repeat (first | rw [hS1] | rw [hI0] | rw [hG0] | rw [hI1] | rw [hG1])
    cbv
    repeat (first | rw [hS1] | rw [hI0] | rw [hG0] | rw [hI1] | rw [hG1])
    cbv
    repeat (first | rw [hS1] | rw [hI0] | rw [hG0] | rw [hI1] | rw [hG1])
    refine ⟨(i + 1, ar .add .i64 j 1, ar .add .i64 (ar .add .i64 va4 1) 1, set (set zs (tn j) [.int .i64 q, .sl true 7 ya1, .int .i64 va1, .str s3, .sl true 3 ya4, .int .i64 va4, .int .i64 a6]) (tn j) [.int .i64 q, .sl true 7 ya1, .int .i64 va1, .str s3, .sl true 3 ya4, .int .i64 va4, .int .i64 (ar .add .i64 va4 1)]), ⟨hil, ?_, ?_, (hS1 _ _).trans (hst [.int .i64 q, .sl true 7 ya1, .int .i64 va1, .str s3, .sl true 3 ya4, .int .i64 va4, .int .i64 (ar .add .i64 va4 1)] (by rw [hq5, hq4, hq1, hq]))⟩, by show l.length - (i + 1) < l.length - i; omega, rfl⟩
    · simp only [F.add, IntKind.wrap_i64, hj, I] at *; omega
    · show ar .add .i64 (ar .add .i64 va4 1) 1 = I _; rw [hq6, hc9]
  · rename_i hlt
    simp only [F.lss, hln, decide_eq_false_iff_not] at hlt
    have hil : i = l.length := by rw [hj] at hlt; simp only [I] at hlt; omega
    subst hil
    cbv
    refine ⟨?_, ?_, trivial⟩
    · rw [hr, hq, hv, List.take_length]
    · rw [hz, ← hy, mkd_all]

theorem c_markProgram {a0 : List Rule} {x0 y0 : List (List T)} {k : Nat} {u v : Int} (hx0 : rows true a0 = x0) (hy0 : rows true (mkL (k) a0) = y0) (hb0 : totL a0 ≤ BIG) (hu : u = I k) (hv : v = I (k + cntL a0)) (hk : k + cntL a0 ≤ 2 ^ 62) :
    Returns E 85 [.agg [.ref ⟨.obj 0, 0, []⟩], .c (.t (.int .i64 u))] [.virt (.sl true 7 x0)] (.c (.t (.int .i64 v))) [.virt (.sl true 7 y0)] := by
  refine fn_walk tb ([46], []) ([0, 1, 2, 4], []) (fn := Try.f85) hmix htb Try.func85 rfl (by kernel_rfl) (by kernel_rfl) (Nat.le_of_ble_eq_true (by kernel_rfl)) rfl ?_
  intro ar cm sc bc nt ng ln sz tn idx get set vw rep nf dv ct wr bt bs us ur ap fl on mi mh ms mo mx mn R r hπ hR hr
  have F := PF.of hπ
  cbv
  refine ⟨_, [.sl true 7 y0], ⟨(hR ▸ c_markRuleS hx0 hy0 hu rfl (by omega) hb0 : R _ _ _ _ _), rfl⟩, ?_⟩
  generalize hv0 : I (k + cntL a0) = v0
  cbv
  exact ⟨by rw [hr, hv, hv0], trivial⟩

theorem c_markExpr {a0 : Int} {a1 : ByteArray} {a2 : List Expr} {x2 y2 : List (List T)} {k : Nat} {u v : Int} (hx2 : rows true a2 = x2) (hy2 : rows true (mkL (k) a2) = y2) (hb2 : totL a2 ≤ BIG) (hu : u = I k) (hv : v = I (k + cntL a2)) (hk : k + cntL a2 ≤ 2 ^ 62) :
    Returns E 86 [.agg [.t (.int .i64 a0), .t (.str a1), .ref ⟨.obj 0, 0, []⟩], .c (.t (.int .i64 u))] [.virt (.sl true 3 x2)] (.c (.t (.int .i64 v))) [.virt (.sl true 3 y2)] := by
  refine fn_walk tb ([48], []) ([0, 1, 2, 4], []) (fn := Try.f86) hmix htb Try.func86 rfl (by kernel_rfl) (by kernel_rfl) (Nat.le_of_ble_eq_true (by kernel_rfl)) rfl ?_
  intro ar cm sc bc nt ng ln sz tn idx get set vw rep nf dv ct wr bt bs us ur ap fl on mi mh ms mo mx mn R r hπ hR hr
  have F := PF.of hπ
  cbv
  refine ⟨_, [.sl true 3 y2], ⟨(hR ▸ c_markExprS hx2 hy2 hu rfl (by omega) hb2 : R _ _ _ _ _), rfl⟩, ?_⟩
  generalize hv0 : I (k + cntL a2) = v0
  cbv
  exact ⟨by rw [hr, hv, hv0], trivial⟩

theorem c_markResidual {a0 : List Rule} {x0 y0 : List (List T)} {a1 : Int} {a2 : ByteArray} {a3 : List Expr} {x3 y3 : List (List T)} {k : Nat} {u v : Int} (hx0 : rows true a0 = x0) (hy0 : rows true (mkL (k) a0) = y0) (hb0 : totL a0 ≤ BIG) (hx3 : rows true a3 = x3) (hy3 : rows true (mkL (k + cntL a0) a3) = y3) (hb3 : totL a3 ≤ BIG) (hu : u = I k) (hv : v = I (k + cntL a0 + cntL a3)) (hk : k + cntL a0 + cntL a3 ≤ 2 ^ 62) :
    Returns E 49 [.agg [.ref ⟨.obj 0, 0, []⟩, .t (.int .i64 a1), .t (.str a2), .ref ⟨.obj 1, 0, []⟩], .c (.t (.int .i64 u))] [.virt (.sl true 7 x0), .virt (.sl true 3 x3)] (.c (.t (.int .i64 v))) [.virt (.sl true 7 y0), .virt (.sl true 3 y3)] := by
  refine fn_walk tb ([85, 86], []) ([0, 1, 2, 4], []) (fn := Try.f49) hmix htb Try.func49 rfl (by kernel_rfl) (by kernel_rfl) (Nat.le_of_ble_eq_true (by kernel_rfl)) rfl ?_
  intro ar cm sc bc nt ng ln sz tn idx get set vw rep nf dv ct wr bt bs us ur ap fl on mi mh ms mo mx mn R r hπ hR hr
  have F := PF.of hπ
  cbv
  refine ⟨_, [.sl true 7 y0], ⟨(hR ▸ c_markProgram hx0 hy0 hb0 hu rfl (by omega) : R _ _ _ _ _), rfl⟩, ?_⟩
  generalize hv0 : I (k + cntL a0) = v0
  cbv
  refine ⟨_, [.sl true 3 y3], ⟨(hR ▸ c_markExpr hx3 hy3 hb3 hv0.symm rfl (by omega) : R _ _ _ _ _), rfl⟩, ?_⟩
  generalize hv1 : I (k + cntL a0 + cntL a3) = v1
  cbv
  exact ⟨by rw [hr, hv, hv1], trivial⟩

theorem c_markVariant {a0 : Int} {a1 : List Rule} {x1 y1 : List (List T)} {a2 : Int} {a3 : ByteArray} {a4 : List Expr} {x4 y4 : List (List T)} {a5 : Int} {a6 : Int} {k : Nat} {u v : Int} (hx1 : rows true a1 = x1) (hy1 : rows true (mkL (k) a1) = y1) (hb1 : totL a1 ≤ BIG) (hx4 : rows true a4 = x4) (hy4 : rows true (mkL (k + cntL a1) a4) = y4) (hb4 : totL a4 ≤ BIG) (hu : u = I k) (hv : v = I (k + cntL a1 + cntL a4)) (hk : k + cntL a1 + cntL a4 ≤ 2 ^ 62) :
    Returns E 19 [.agg [.t (.int .i64 a0), .ref ⟨.obj 0, 0, []⟩, .t (.int .i64 a2), .t (.str a3), .ref ⟨.obj 1, 0, []⟩, .t (.int .i64 a5), .t (.int .i64 a6)], .c (.t (.int .i64 u))] [.virt (.sl true 7 x1), .virt (.sl true 3 x4)] (.c (.t (.int .i64 v))) [.virt (.sl true 7 y1), .virt (.sl true 3 y4)] := by
  refine fn_walk tb ([49], []) ([0, 1, 2, 4], []) (fn := Try.f19) hmix htb Try.func19 rfl (by kernel_rfl) (by kernel_rfl) (Nat.le_of_ble_eq_true (by kernel_rfl)) rfl ?_
  intro ar cm sc bc nt ng ln sz tn idx get set vw rep nf dv ct wr bt bs us ur ap fl on mi mh ms mo mx mn R r hπ hR hr
  have F := PF.of hπ
  cbv
  refine ⟨_, [.sl true 7 y1, .sl true 3 y4], ⟨(hR ▸ c_markResidual hx1 hy1 hb1 hx4 hy4 hb4 hu rfl (by omega) : R _ _ _ _ _), rfl⟩, ?_⟩
  generalize hv0 : I (k + cntL a1 + cntL a4) = v0
  cbv
  exact ⟨by rw [hr, hv, hv0], trivial⟩

theorem c_heldStringS {l : List ByteArray} {xs : List (List T)} {k : Nat} {u v : Int} (hx : rows false (mkL k l) = xs) (hu : u = I k) (hv : v = I (k + cntL l)) (hk : k + cntL l ≤ 2 ^ 62) (hb : totL l ≤ BIG) :
    Returns E 138 [.c (.t (.sl false 1 xs)), .c (.t (.int .i64 u))] [] (.c (.t (.int .i64 v))) [] := by
  refine fn_walk tb ([], []) ([0, 1, 4, 5, 9, 18], []) (fn := Try.f138) hmix htb Try.func138 rfl (by kernel_rfl) (by kernel_rfl) (Nat.le_of_ble_eq_true (by kernel_rfl)) rfl ?_
  intro ar cm sc bc nt ng ln sz tn idx get set vw rep nf dv ct wr bt bs us ur ap fl on mi mh ms mo mx mn R r hπ hR hr
  have F := PF.of hπ
  have hlen : ln xs = I l.length := by rw [F.ln, ← hx, rows_length, mkL_length]
  have hbl : l.length ≤ 9223372036854775807 := Nat.le_trans (len_tot l) hb
  cbv
  refine aloop_inv [0, 1, 4, 5] [] (fun (a : Nat × Int × Int) => ⟨[(0, .c (.t (.sl false 1 xs))), (1, .c (.t (.int .i64 a.2.2))), (4, .c (.t (.int .i64 0))), (5, .c (.t (.int .i64 a.2.1)))], [], [], [], [], []⟩)
    (fun a => a.1 ≤ l.length ∧ a.2.1 = I a.1 ∧ a.2.2 = I (k + cntL (l.take a.1))) (fun a => l.length - a.1) (0, 0, u)
    ⟨Nat.zero_le _, rfl, hu⟩ rfl ?_
  rintro ⟨i, j, q⟩ ⟨hi, hj, hq⟩
  simp only at hi hj hq
  cbv
  split
  · rename_i hlt
    simp only [F.lss, hlen, decide_eq_true_eq] at hlt
    have hil : i < l.length := by rw [hj] at hlt; simp only [I] at hlt; omega
    have hI0 : idx xs j = some (G.cells false (Mk.mark (k + cntL (l.take i)) l[i])) := by rw [F.idx, hj, ← hx]; simp only [I]; simp [rows_get, mkL_get l k i hil]
    have hcl := cntL_le l (i + 1)
    have hcs := cntL_succ l i hil
    have hc9 : k + cntL (l.take (i + 1)) = k + cntL (l.take i) + Mk.cnt l[i] := by omega
    have htot := tot_mem (List.getElem_mem hil)
    clear hcs
    generalize l[i] = e at hI0 hc9 htot
    generalize hn : k + cntL (l.take i) = n at *
    change idx xs j = some [.str (mt n)] at hI0
    change k + cntL (l.take (i + 1)) = n + 1 at hc9
    have ht0 := c_markText hq (by omega)
    generalize mt (n) = s0 at ht0 hI0
    have f0 : sc .neq s0 s0 = false := by rw [F.sneq]; simp
    have hq0 : ar .add .i64 q 1 = I (n + 1) := by rw [hq]; simp only [F.add, IntKind.wrap_i64, I] at *; omega
    cbv
    rw [hI0]
    cbv
    refine ⟨_, ⟨(hR ▸ ht0 : R _ _ _ _ _), rfl⟩, ?_⟩
    cbv
    rw [f0]
    cbv
    refine ⟨(i + 1, ar .add .i64 j 1, ar .add .i64 q 1), ⟨hil, ?_, ?_⟩, by show l.length - (i + 1) < l.length - i; omega, rfl⟩
    · simp only [F.add, IntKind.wrap_i64, hj, I] at *; omega
    · show ar .add .i64 q 1 = I _; rw [hq0, hc9]
  · rename_i hlt
    simp only [F.lss, hlen, decide_eq_false_iff_not] at hlt
    have hil : i = l.length := by rw [hj] at hlt; simp only [I] at hlt; omega
    subst hil
    cbv
    exact ⟨by rw [hr, hq, hv, List.take_length], trivial⟩

theorem q_heldExprS {l : List Expr} {xs : List (List T)} {k : Nat} {u v : Int} (hx : rows false (mkL k l) = xs) (hu : u = I k) (hv : v = I (k + cntL l)) (hk : k + cntL l ≤ 2 ^ 62) (hb : totL l ≤ BIG)
    (ih : ∀ x ∈ l, ∀ (xs : List (List T)) (k : Nat) (u v : Int), rows false (mkL k x.args) = xs → u = I k → v = I (k + cntL x.args) → k + cntL x.args ≤ 2 ^ 62 → totL x.args ≤ BIG → Returns E 118 [.c (.t (.sl false 3 xs)), .c (.t (.int .i64 u))] [] (.c (.t (.int .i64 v))) []) :
    Returns E 118 [.c (.t (.sl false 3 xs)), .c (.t (.int .i64 u))] [] (.c (.t (.int .i64 v))) [] := by
  refine fn_walk tb ([], []) ([0, 1, 4, 5, 9, 18, 28, 39], []) (fn := Try.f118) hmix htb Try.func118 rfl (by kernel_rfl) (by kernel_rfl) (Nat.le_of_ble_eq_true (by kernel_rfl)) rfl ?_
  intro ar cm sc bc nt ng ln sz tn idx get set vw rep nf dv ct wr bt bs us ur ap fl on mi mh ms mo mx mn R r hπ hR hr
  have F := PF.of hπ
  have hlen : ln xs = I l.length := by rw [F.ln, ← hx, rows_length, mkL_length]
  have hbl : l.length ≤ 9223372036854775807 := Nat.le_trans (len_tot l) hb
  cbv
  refine aloop_inv [0, 1, 4, 5] [] (fun (a : Nat × Int × Int) => ⟨[(0, .c (.t (.sl false 3 xs))), (1, .c (.t (.int .i64 a.2.2))), (4, .c (.t (.int .i64 0))), (5, .c (.t (.int .i64 a.2.1)))], [], [], [], [], []⟩)
    (fun a => a.1 ≤ l.length ∧ a.2.1 = I a.1 ∧ a.2.2 = I (k + cntL (l.take a.1))) (fun a => l.length - a.1) (0, 0, u)
    ⟨Nat.zero_le _, rfl, hu⟩ rfl ?_
  rintro ⟨i, j, q⟩ ⟨hi, hj, hq⟩
  simp only at hi hj hq
  cbv
  split
  · rename_i hlt
    simp only [F.lss, hlen, decide_eq_true_eq] at hlt
    have hil : i < l.length := by rw [hj] at hlt; simp only [I] at hlt; omega
    have hI0 : idx xs j = some (G.cells false (Mk.mark (k + cntL (l.take i)) l[i])) := by rw [F.idx, hj, ← hx]; simp only [I]; simp [rows_get, mkL_get l k i hil]
    have hcl := cntL_le l (i + 1)
    have hcs := cntL_succ l i hil
    have hc9 : k + cntL (l.take (i + 1)) = k + cntL (l.take i) + Mk.cnt l[i] := by omega
    have htot := tot_mem (List.getElem_mem hil)
    have hih := ih l[i] (List.getElem_mem hil)
    clear hcs
    generalize l[i] = e at hI0 hc9 htot hih
    obtain ⟨a0, a1, a2⟩ := e
    generalize hn : k + cntL (l.take i) = n at *
    rw [Expr.markc] at hI0
    rw [Expr.cntc] at hc9
    simp only [Expr.tot] at htot
    simp only at hih
    have f0 : cm .neq (I (n)) q = false := by rw [F.neq, hq]; simp
    generalize hbb0 : I (n) = b0 at hI0 f0
    have hq0 : ar .add .i64 q 1 = I (n + 1) := by rw [hq]; simp only [F.add, IntKind.wrap_i64, I] at *; omega
    have ht1 := c_markText hq0 (by omega)
    generalize mt (n + 1) = s1 at ht1 hI0
    have f1 : sc .neq s1 s1 = false := by rw [F.sneq]; simp
    have hq1 : ar .add .i64 (ar .add .i64 q 1) 1 = I (n + 2) := by rw [hq0]; simp only [F.add, IntKind.wrap_i64, I] at *; omega
    have hc2 := hih _ (n + 2) (ar .add .i64 (ar .add .i64 q 1) 1) _ (rfl : rows false (mkL (n + 2) a2) = _) hq1 rfl (by omega) (by show totL a2 ≤ 9223372036854775807; omega)
    generalize rows false (mkL (n + 2) a2) = ya2 at hc2 hI0
    generalize hva2 : I (n + 2 + cntL a2) = va2 at hc2
    have f2 : cm .lss va2 0 = false := by rw [F.lss, ← hva2, decide_eq_false_iff_not]; simp only [I]; omega
    have hq2 : va2 = I (n + (2 + cntL a2)) := hva2.symm.trans (congrArg I (by omega))
    cbv
    rw [hI0]
    cbv
    rw [f0]
    cbv
    rw [hI0]
    cbv
    refine ⟨_, ⟨(hR ▸ ht1 : R _ _ _ _ _), rfl⟩, ?_⟩
    cbv
    rw [f1]
    cbv
    rw [hI0]
    cbv
    refine ⟨_, ⟨(hR ▸ hc2 : R _ _ _ _ _), rfl⟩, ?_⟩
    cbv
    rw [f2]
    cbv
    refine ⟨(i + 1, ar .add .i64 j 1, va2), ⟨hil, ?_, ?_⟩, by show l.length - (i + 1) < l.length - i; omega, rfl⟩
    · simp only [F.add, IntKind.wrap_i64, hj, I] at *; omega
    · show va2 = I _; rw [hq2, hc9]
  · rename_i hlt
    simp only [F.lss, hlen, decide_eq_false_iff_not] at hlt
    have hil : i = l.length := by rw [hj] at hlt; simp only [I] at hlt; omega
    subst hil
    cbv
    exact ⟨by rw [hr, hq, hv, List.take_length], trivial⟩

theorem c_heldExprS0 : ∀ (e : Expr) (xs : List (List T)) (k : Nat) (u v : Int), rows false (mkL k e.args) = xs → u = I k → v = I (k + cntL e.args) → k + cntL e.args ≤ 2 ^ 62 → totL e.args ≤ BIG →
    Returns E 118 [.c (.t (.sl false 3 xs)), .c (.t (.int .i64 u))] [] (.c (.t (.int .i64 v))) [] :=
  Expr.ind fun _ _ es ih xs k u v h1 h3 h4 h5 h6 => q_heldExprS h1 h3 h4 h5 h6 ih
theorem c_heldExprS {l : List Expr} {xs : List (List T)} {k : Nat} {u v : Int} (hx : rows false (mkL k l) = xs) (hu : u = I k) (hv : v = I (k + cntL l)) (hk : k + cntL l ≤ 2 ^ 62) (hb : totL l ≤ BIG) :
    Returns E 118 [.c (.t (.sl false 3 xs)), .c (.t (.int .i64 u))] [] (.c (.t (.int .i64 v))) [] := q_heldExprS hx hu hv hk hb fun x _ => c_heldExprS0 x

theorem c_heldRuleS {l : List Rule} {xs : List (List T)} {k : Nat} {u v : Int} (hx : rows false (mkL k l) = xs) (hu : u = I k) (hv : v = I (k + cntL l)) (hk : k + cntL l ≤ 2 ^ 62) (hb : totL l ≤ BIG) :
    Returns E 117 [.c (.t (.sl false 7 xs)), .c (.t (.int .i64 u))] [] (.c (.t (.int .i64 v))) [] := by
  refine fn_walk tb ([], []) ([0, 1, 4, 5, 9, 19, 29, 40, 49, 57, 68, 80], []) (fn := Try.f117) hmix htb Try.func117 rfl (by kernel_rfl) (by kernel_rfl) (Nat.le_of_ble_eq_true (by kernel_rfl)) rfl ?_
  intro ar cm sc bc nt ng ln sz tn idx get set vw rep nf dv ct wr bt bs us ur ap fl on mi mh ms mo mx mn R r hπ hR hr
  have F := PF.of hπ
  have hlen : ln xs = I l.length := by rw [F.ln, ← hx, rows_length, mkL_length]
  have hbl : l.length ≤ 9223372036854775807 := Nat.le_trans (len_tot l) hb
  cbv
  refine aloop_inv [0, 1, 4, 5] [] (fun (a : Nat × Int × Int) => ⟨[(0, .c (.t (.sl false 7 xs))), (1, .c (.t (.int .i64 a.2.2))), (4, .c (.t (.int .i64 0))), (5, .c (.t (.int .i64 a.2.1)))], [], [], [], [], []⟩)
    (fun a => a.1 ≤ l.length ∧ a.2.1 = I a.1 ∧ a.2.2 = I (k + cntL (l.take a.1))) (fun a => l.length - a.1) (0, 0, u)
    ⟨Nat.zero_le _, rfl, hu⟩ rfl ?_
  rintro ⟨i, j, q⟩ ⟨hi, hj, hq⟩
  simp only at hi hj hq
  cbv
  split
  · rename_i hlt
    simp only [F.lss, hlen, decide_eq_true_eq] at hlt
    have hil : i < l.length := by rw [hj] at hlt; simp only [I] at hlt; omega
    have hI0 : idx xs j = some (G.cells false (Mk.mark (k + cntL (l.take i)) l[i])) := by rw [F.idx, hj, ← hx]; simp only [I]; simp [rows_get, mkL_get l k i hil]
    have hcl := cntL_le l (i + 1)
    have hcs := cntL_succ l i hil
    have hc9 : k + cntL (l.take (i + 1)) = k + cntL (l.take i) + Mk.cnt l[i] := by omega
    have htot := tot_mem (List.getElem_mem hil)
    clear hcs
    generalize l[i] = e at hI0 hc9 htot
    obtain ⟨a0, a1, a2, a3, ⟨a4, a5, a6⟩⟩ := e
    generalize hn : k + cntL (l.take i) = n at *
    rw [Rule.markc] at hI0
    rw [Rule.cntc] at hc9
    simp only [Rule.tot, Expr.tot] at htot
    have ht0 := c_markText hq (by omega)
    generalize mt (n) = s0 at ht0 hI0
    have f0 : sc .neq s0 s0 = false := by rw [F.sneq]; simp
    have hq0 : ar .add .i64 q 1 = I (n + 1) := by rw [hq]; simp only [F.add, IntKind.wrap_i64, I] at *; omega
    have ht1 := c_markText hq0 (by omega)
    generalize mt (n + 1) = s1 at ht1 hI0
    have f1 : sc .neq s1 s1 = false := by rw [F.sneq]; simp
    have hq1 : ar .add .i64 (ar .add .i64 q 1) 1 = I (n + 1 + 1) := by rw [hq0]; simp only [F.add, IntKind.wrap_i64, I] at *; omega
    have hc2 := c_heldStringS (rfl : rows false (mkL (n + 1 + 1) a2) = _) hq1 rfl (by omega) (by show totL a2 ≤ 9223372036854775807; omega)
    generalize rows false (mkL (n + 1 + 1) a2) = ya2 at hc2 hI0
    generalize hva2 : I (n + 1 + 1 + cntL a2) = va2 at hc2
    have f2 : cm .lss va2 0 = false := by rw [F.lss, ← hva2, decide_eq_false_iff_not]; simp only [I]; omega
    have hq2 : va2 = I (n + 1 + 1 + cntL a2) := hva2.symm.trans (congrArg I (by omega))
    have hc3 := c_heldStringS (rfl : rows false (mkL (n + 1 + 1 + cntL a2) a3) = _) hq2 rfl (by omega) (by show totL a3 ≤ 9223372036854775807; omega)
    generalize rows false (mkL (n + 1 + 1 + cntL a2) a3) = ya3 at hc3 hI0
    generalize hva3 : I (n + 1 + 1 + cntL a2 + cntL a3) = va3 at hc3
    have f3 : cm .lss va3 0 = false := by rw [F.lss, ← hva3, decide_eq_false_iff_not]; simp only [I]; omega
    have hq3 : va3 = I (n + 1 + 1 + cntL a2 + cntL a3) := hva3.symm.trans (congrArg I (by omega))
    have f4 : cm .neq (I (n + 1 + 1 + cntL a2 + cntL a3)) va3 = false := by rw [F.neq, hq3]; simp
    generalize hbb4 : I (n + 1 + 1 + cntL a2 + cntL a3) = b4 at hI0 f4
    have hq4 : ar .add .i64 va3 1 = I (n + 1 + 1 + cntL a2 + cntL a3 + 1) := by rw [hq3]; simp only [F.add, IntKind.wrap_i64, I] at *; omega
    have ht5 := c_markText hq4 (by omega)
    generalize mt (n + 1 + 1 + cntL a2 + cntL a3 + 1) = s5 at ht5 hI0
    have f5 : sc .neq s5 s5 = false := by rw [F.sneq]; simp
    have hq5 : ar .add .i64 (ar .add .i64 va3 1) 1 = I (n + 1 + 1 + cntL a2 + cntL a3 + 2) := by rw [hq4]; simp only [F.add, IntKind.wrap_i64, I] at *; omega
    have hc6 := c_heldExprS (rfl : rows false (mkL (n + 1 + 1 + cntL a2 + cntL a3 + 2) a6) = _) hq5 rfl (by omega) (by show totL a6 ≤ 9223372036854775807; omega)
    generalize rows false (mkL (n + 1 + 1 + cntL a2 + cntL a3 + 2) a6) = ya6 at hc6 hI0
    generalize hva6 : I (n + 1 + 1 + cntL a2 + cntL a3 + 2 + cntL a6) = va6 at hc6
    have f6 : cm .lss va6 0 = false := by rw [F.lss, ← hva6, decide_eq_false_iff_not]; simp only [I]; omega
    have hq6 : va6 = I (n + (1 + 1 + cntL a2 + cntL a3 + (2 + cntL a6))) := hva6.symm.trans (congrArg I (by omega))
    cbv
    rw [hI0]
    cbv
    refine ⟨_, ⟨(hR ▸ ht0 : R _ _ _ _ _), rfl⟩, ?_⟩
    cbv
    rw [f0]
    cbv
    rw [hI0]
    cbv
    refine ⟨_, ⟨(hR ▸ ht1 : R _ _ _ _ _), rfl⟩, ?_⟩
    cbv
    rw [f1]
    cbv
    rw [hI0]
    cbv
    refine ⟨_, ⟨(hR ▸ hc2 : R _ _ _ _ _), rfl⟩, ?_⟩
    cbv
    rw [f2]
    cbv
    rw [hI0]
    cbv
    refine ⟨_, ⟨(hR ▸ hc3 : R _ _ _ _ _), rfl⟩, ?_⟩
    cbv
    rw [f3]
    cbv
    rw [hI0]
    cbv
    rw [f4]
    cbv
    rw [hI0]
    cbv
    refine ⟨_, ⟨(hR ▸ ht5 : R _ _ _ _ _), rfl⟩, ?_⟩
    cbv
    rw [f5]
    cbv
    rw [hI0]
    cbv
    refine ⟨_, ⟨(hR ▸ hc6 : R _ _ _ _ _), rfl⟩, ?_⟩
    cbv
    rw [f6]
    cbv
    refine ⟨(i + 1, ar .add .i64 j 1, va6), ⟨hil, ?_, ?_⟩, by show l.length - (i + 1) < l.length - i; omega, rfl⟩
    · simp only [F.add, IntKind.wrap_i64, hj, I] at *; omega
    · show va6 = I _; rw [hq6, hc9]
  · rename_i hlt
    simp only [F.lss, hlen, decide_eq_false_iff_not] at hlt
    have hil : i = l.length := by rw [hj] at hlt; simp only [I] at hlt; omega
    subst hil
    cbv
    exact ⟨by rw [hr, hq, hv, List.take_length], trivial⟩

theorem c_heldProgram {a0 : List Rule} {x0 : List (List T)} {k : Nat} {u v : Int} (hx0 : rows false (mkL (k) a0) = x0) (hb0 : totL a0 ≤ BIG) (hu : u = I k) (hv : v = I (k + cntL a0)) (hk : k + cntL a0 ≤ 2 ^ 62) :
    Returns E 87 [.agg [.t (.sl false 7 x0)], .c (.t (.int .i64 u))] [] (.c (.t (.int .i64 v))) [] := by
  refine fn_walk tb ([], []) ([0, 1, 2, 4, 10], []) (fn := Try.f87) hmix htb Try.func87 rfl (by kernel_rfl) (by kernel_rfl) (Nat.le_of_ble_eq_true (by kernel_rfl)) rfl ?_
  intro ar cm sc bc nt ng ln sz tn idx get set vw rep nf dv ct wr bt bs us ur ap fl on mi mh ms mo mx mn R r hπ hR hr
  have F := PF.of hπ
  cbv
  refine ⟨_, ⟨(hR ▸ c_heldRuleS hx0 hu rfl (by omega) hb0 : R _ _ _ _ _), rfl⟩, ?_⟩
  have f0 : cm .lss (I (k + cntL a0)) 0 = false := by rw [F.lss, decide_eq_false_iff_not]; simp only [I]; omega
  generalize hv0 : I (k + cntL a0) = v0 at f0
  cbv
  rw [f0]
  cbv
  exact ⟨by rw [hr, hv, hv0], trivial⟩

theorem c_heldExpr {a0 : Int} {a1 : ByteArray} {a2 : List Expr} {x2 : List (List T)} {k : Nat} {u v : Int} (hx2 : rows false (mkL (k) a2) = x2) (hb2 : totL a2 ≤ BIG) (hu : u = I k) (hv : v = I (k + cntL a2)) (hk : k + cntL a2 ≤ 2 ^ 62) :
    Returns E 88 [.agg [.t (.int .i64 a0), .t (.str a1), .t (.sl false 3 x2)], .c (.t (.int .i64 u))] [] (.c (.t (.int .i64 v))) [] := by
  refine fn_walk tb ([], []) ([0, 1, 2, 4, 10], []) (fn := Try.f88) hmix htb Try.func88 rfl (by kernel_rfl) (by kernel_rfl) (Nat.le_of_ble_eq_true (by kernel_rfl)) rfl ?_
  intro ar cm sc bc nt ng ln sz tn idx get set vw rep nf dv ct wr bt bs us ur ap fl on mi mh ms mo mx mn R r hπ hR hr
  have F := PF.of hπ
  cbv
  refine ⟨_, ⟨(hR ▸ c_heldExprS hx2 hu rfl (by omega) hb2 : R _ _ _ _ _), rfl⟩, ?_⟩
  have f0 : cm .lss (I (k + cntL a2)) 0 = false := by rw [F.lss, decide_eq_false_iff_not]; simp only [I]; omega
  generalize hv0 : I (k + cntL a2) = v0 at f0
  cbv
  rw [f0]
  cbv
  exact ⟨by rw [hr, hv, hv0], trivial⟩

theorem c_heldResidual {a0 : List Rule} {x0 : List (List T)} {a1 : Int} {a2 : ByteArray} {a3 : List Expr} {x3 : List (List T)} {k : Nat} {u v : Int} (hx0 : rows false (mkL (k) a0) = x0) (hb0 : totL a0 ≤ BIG) (hx3 : rows false (mkL (k + cntL a0) a3) = x3) (hb3 : totL a3 ≤ BIG) (hu : u = I k) (hv : v = I (k + cntL a0 + cntL a3)) (hk : k + cntL a0 + cntL a3 ≤ 2 ^ 62) :
    Returns E 50 [.agg [.t (.sl false 7 x0), .t (.int .i64 a1), .t (.str a2), .t (.sl false 3 x3)], .c (.t (.int .i64 u))] [] (.c (.t (.int .i64 v))) [] := by
  refine fn_walk tb ([], []) ([0, 1, 2, 4, 10, 16], []) (fn := Try.f50) hmix htb Try.func50 rfl (by kernel_rfl) (by kernel_rfl) (Nat.le_of_ble_eq_true (by kernel_rfl)) rfl ?_
  intro ar cm sc bc nt ng ln sz tn idx get set vw rep nf dv ct wr bt bs us ur ap fl on mi mh ms mo mx mn R r hπ hR hr
  have F := PF.of hπ
  cbv
  refine ⟨_, ⟨(hR ▸ c_heldProgram hx0 hb0 hu rfl (by omega) : R _ _ _ _ _), rfl⟩, ?_⟩
  have f0 : cm .lss (I (k + cntL a0)) 0 = false := by rw [F.lss, decide_eq_false_iff_not]; simp only [I]; omega
  generalize hv0 : I (k + cntL a0) = v0 at f0
  cbv
  rw [f0]
  cbv
  refine ⟨_, ⟨(hR ▸ c_heldExpr hx3 hb3 hv0.symm rfl (by omega) : R _ _ _ _ _), rfl⟩, ?_⟩
  have f1 : cm .lss (I (k + cntL a0 + cntL a3)) 0 = false := by rw [F.lss, decide_eq_false_iff_not]; simp only [I]; omega
  generalize hv1 : I (k + cntL a0 + cntL a3) = v1 at f1
  cbv
  rw [f1]
  cbv
  exact ⟨by rw [hr, hv, hv1], trivial⟩

theorem c_heldVariant {a0 : Int} {a1 : List Rule} {x1 : List (List T)} {a2 : Int} {a3 : ByteArray} {a4 : List Expr} {x4 : List (List T)} {a5 : Int} {a6 : Int} {k : Nat} {u v : Int} (hx1 : rows false (mkL (k) a1) = x1) (hb1 : totL a1 ≤ BIG) (hx4 : rows false (mkL (k + cntL a1) a4) = x4) (hb4 : totL a4 ≤ BIG) (hu : u = I k) (hv : v = I (k + cntL a1 + cntL a4)) (hk : k + cntL a1 + cntL a4 ≤ 2 ^ 62) :
    Returns E 20 [.agg [.t (.int .i64 a0), .t (.sl false 7 x1), .t (.int .i64 a2), .t (.str a3), .t (.sl false 3 x4), .t (.int .i64 a5), .t (.int .i64 a6)], .c (.t (.int .i64 u))] [] (.c (.t (.int .i64 v))) [] := by
  refine fn_walk tb ([], []) ([0, 1, 2, 4, 10], []) (fn := Try.f20) hmix htb Try.func20 rfl (by kernel_rfl) (by kernel_rfl) (Nat.le_of_ble_eq_true (by kernel_rfl)) rfl ?_
  intro ar cm sc bc nt ng ln sz tn idx get set vw rep nf dv ct wr bt bs us ur ap fl on mi mh ms mo mx mn R r hπ hR hr
  have F := PF.of hπ
  cbv
  refine ⟨_, ⟨(hR ▸ c_heldResidual hx1 hb1 hx4 hb4 hu rfl (by omega) : R _ _ _ _ _), rfl⟩, ?_⟩
  have f0 : cm .lss (I (k + cntL a1 + cntL a4)) 0 = false := by rw [F.lss, decide_eq_false_iff_not]; simp only [I]; omega
  generalize hv0 : I (k + cntL a1 + cntL a4) = v0 at f0
  cbv
  rw [f0]
  cbv
  exact ⟨by rw [hr, hv, hv0], trivial⟩
end Vx.D.Ytbnagcgfmlmgnaa
