-- PRINTED BY print.sh 35421559b90ae4d0a3588c463048766b98c2df88dd9212a6774a882060cdf62d: not written by this session
import Derived.Test.YtjfpbaknhaikmaaPFnExactExampleGoalx0
namespace Go.Proofs.Ytjfpbaknhaikmaa.PFnExactExampleGoal
open Go.RowKit Go.Proofs.YtjfpbaknhaikmaaW.PrintWords Go.Proofs.YtjfpbaknhaikmaaW.PrintLast Go.Proofs.YtjfpbaknhaikmaaW.PrintMore
attribute [local go_sem] max2_int min2_int max_two min_two max_three min_three max_four min_four   -- for this text's walks alone
set_option linter.unusedVariables false
set_option linter.unusedSimpArgs false

/-! ### spec_l32Texts: function 26 -/
def spec_l32Texts.f (a0 : Int) : Option (List ByteArray) := if a0 = 1 then (some (([(⟨#[97, 112, 112, 40, 78, 44, 121, 41, 32, 61, 32, 121, 10, 97, 112, 112, 40, 67, 40, 104, 44, 116, 41, 44, 121, 41, 32, 61, 32, 67, 40, 104, 44, 97, 112, 112, 40, 116, 44, 121, 41, 41, 10]⟩ : ByteArray), (⟨#[97, 112, 112, 40, 97, 112, 112, 40, 120, 44, 121, 41, 44, 122, 41]⟩ : ByteArray)] : List ByteArray))) else (if a0 = 2 then (some (([(⟨#[97, 112, 112, 40, 78, 44, 121, 41, 32, 61, 32, 121, 10, 97, 112, 112, 40, 67, 40, 104, 44, 116, 41, 44, 121, 41, 32, 61, 32, 67, 40, 104, 44, 97, 112, 112, 40, 116, 44, 121, 41, 41, 10, 108, 101, 110, 40, 78, 41, 32, 61, 32, 90, 10, 108, 101, 110, 40, 67, 40, 104, 44, 116, 41, 41, 32, 61, 32, 83, 40, 108, 101, 110, 40, 116, 41, 41, 10]⟩ : ByteArray), (⟨#[108, 101, 110, 40, 97, 112, 112, 40, 120, 44, 121, 41, 41]⟩ : ByteArray)] : List ByteArray))) else (if a0 = 3 then (some (([(⟨#[100, 98, 108, 40, 90, 41, 32, 61, 32, 90, 10, 100, 98, 108, 40, 83, 40, 120, 41, 41, 32, 61, 32, 83, 40, 83, 40, 100, 98, 108, 40, 120, 41, 41, 41, 10, 101, 118, 40, 90, 41, 32, 61, 32, 84, 10, 101, 118, 40, 83, 40, 120, 41, 41, 32, 61, 32, 111, 100, 40, 120, 41, 10, 111, 100, 40, 90, 41, 32, 61, 32, 70, 10, 111, 100, 40, 83, 40, 120, 41, 41, 32, 61, 32, 101, 118, 40, 120, 41, 10]⟩ : ByteArray), (⟨#[101, 118, 40, 100, 98, 108, 40, 120, 41, 41]⟩ : ByteArray)] : List ByteArray))) else (if a0 = 4 then (some (([(⟨#[97, 100, 100, 40, 90, 44, 121, 41, 32, 61, 32, 121, 10, 97, 100, 100, 40, 83, 40, 120, 41, 44, 121, 41, 32, 61, 32, 97, 100, 100, 40, 120, 44, 83, 40, 121, 41, 41, 10]⟩ : ByteArray), (⟨#[97, 100, 100, 40, 120, 44, 90, 41]⟩ : ByteArray)] : List ByteArray))) else (if a0 = 5 then (some (([(⟨#[101, 40, 65, 44, 97, 44, 98, 41, 32, 61, 32, 97, 10, 101, 40, 66, 44, 97, 44, 98, 41, 32, 61, 32, 98, 10, 109, 40, 78, 41, 32, 61, 32, 70, 10, 109, 40, 67, 40, 104, 44, 116, 41, 41, 32, 61, 32, 101, 40, 104, 44, 110, 40, 116, 41, 44, 109, 40, 116, 41, 41, 10, 110, 40, 78, 41, 32, 61, 32, 70, 10, 110, 40, 67, 40, 104, 44, 116, 41, 41, 32, 61, 32, 101, 40, 104, 44, 84, 44, 109, 40, 116, 41, 41, 10]⟩ : ByteArray), (⟨#[109, 40, 120, 41]⟩ : ByteArray)] : List ByteArray))) else (some (([(⟨#[]⟩ : ByteArray), (⟨#[]⟩ : ByteArray)] : List ByteArray)))))))
set_option maxHeartbeats 8000000 in
set_option maxRecDepth 100000 in
theorem spec_l32Texts.calls (a0 : Int) (r : List ByteArray) (w : World) (h : spec_l32Texts.f a0 = some r) :
    Calls Try.prog 26 #[.int .i64 a0] w fun e w' => ∃ v0_ : Value, e = .returned (v0_) ∧ Kd.R Kd.string 9 w' w.heap.size (fun _ => True) v0_ r ∧ Below w.heap.size w w' := by
  have HB := Aside0.mk (Below.refl w.heap.size w)
  have H : (if a0 = 1 then (some (([(⟨#[97, 112, 112, 40, 78, 44, 121, 41, 32, 61, 32, 121, 10, 97, 112, 112, 40, 67, 40, 104, 44, 116, 41, 44, 121, 41, 32, 61, 32, 67, 40, 104, 44, 97, 112, 112, 40, 116, 44, 121, 41, 41, 10]⟩ : ByteArray), (⟨#[97, 112, 112, 40, 97, 112, 112, 40, 120, 44, 121, 41, 44, 122, 41]⟩ : ByteArray)] : List ByteArray))) else (if a0 = 2 then (some (([(⟨#[97, 112, 112, 40, 78, 44, 121, 41, 32, 61, 32, 121, 10, 97, 112, 112, 40, 67, 40, 104, 44, 116, 41, 44, 121, 41, 32, 61, 32, 67, 40, 104, 44, 97, 112, 112, 40, 116, 44, 121, 41, 41, 10, 108, 101, 110, 40, 78, 41, 32, 61, 32, 90, 10, 108, 101, 110, 40, 67, 40, 104, 44, 116, 41, 41, 32, 61, 32, 83, 40, 108, 101, 110, 40, 116, 41, 41, 10]⟩ : ByteArray), (⟨#[108, 101, 110, 40, 97, 112, 112, 40, 120, 44, 121, 41, 41]⟩ : ByteArray)] : List ByteArray))) else (if a0 = 3 then (some (([(⟨#[100, 98, 108, 40, 90, 41, 32, 61, 32, 90, 10, 100, 98, 108, 40, 83, 40, 120, 41, 41, 32, 61, 32, 83, 40, 83, 40, 100, 98, 108, 40, 120, 41, 41, 41, 10, 101, 118, 40, 90, 41, 32, 61, 32, 84, 10, 101, 118, 40, 83, 40, 120, 41, 41, 32, 61, 32, 111, 100, 40, 120, 41, 10, 111, 100, 40, 90, 41, 32, 61, 32, 70, 10, 111, 100, 40, 83, 40, 120, 41, 41, 32, 61, 32, 101, 118, 40, 120, 41, 10]⟩ : ByteArray), (⟨#[101, 118, 40, 100, 98, 108, 40, 120, 41, 41]⟩ : ByteArray)] : List ByteArray))) else (if a0 = 4 then (some (([(⟨#[97, 100, 100, 40, 90, 44, 121, 41, 32, 61, 32, 121, 10, 97, 100, 100, 40, 83, 40, 120, 41, 44, 121, 41, 32, 61, 32, 97, 100, 100, 40, 120, 44, 83, 40, 121, 41, 41, 10]⟩ : ByteArray), (⟨#[97, 100, 100, 40, 120, 44, 90, 41]⟩ : ByteArray)] : List ByteArray))) else (if a0 = 5 then (some (([(⟨#[101, 40, 65, 44, 97, 44, 98, 41, 32, 61, 32, 97, 10, 101, 40, 66, 44, 97, 44, 98, 41, 32, 61, 32, 98, 10, 109, 40, 78, 41, 32, 61, 32, 70, 10, 109, 40, 67, 40, 104, 44, 116, 41, 41, 32, 61, 32, 101, 40, 104, 44, 110, 40, 116, 41, 44, 109, 40, 116, 41, 41, 10, 110, 40, 78, 41, 32, 61, 32, 70, 10, 110, 40, 67, 40, 104, 44, 116, 41, 41, 32, 61, 32, 101, 40, 104, 44, 84, 44, 109, 40, 116, 41, 41, 10]⟩ : ByteArray), (⟨#[109, 40, 120, 41]⟩ : ByteArray)] : List ByteArray))) else (some (([(⟨#[]⟩ : ByteArray), (⟨#[]⟩ : ByteArray)] : List ByteArray)))))))) = some r := h
  clear h
  by_cases c2 : a0 = 1
  · rw [if_pos c2] at H
    have c2b0 : (a0 == 1) = true := beq_iff_eq.mpr c2
    have c2b1 : (a0 != 1) = false := bne_eq_false_iff_eq.mpr c2
    clear c2
    obtain ⟨y101, hy101⟩ : ∃ y_ : List ByteArray, y_ = (([(⟨#[97, 112, 112, 40, 78, 44, 121, 41, 32, 61, 32, 121, 10, 97, 112, 112, 40, 67, 40, 104, 44, 116, 41, 44, 121, 41, 32, 61, 32, 67, 40, 104, 44, 97, 112, 112, 40, 116, 44, 121, 41, 41, 10]⟩ : ByteArray), (⟨#[97, 112, 112, 40, 97, 112, 112, 40, 120, 44, 121, 41, 44, 122, 41]⟩ : ByteArray)] : List ByteArray)) := ⟨_, rfl⟩
    replace H : (some y101) = some r := by first | (rw [hy101]; with_reducible exact H) | (have H2_ := (Option.bind_some _ _).symm.trans H; rw [hy101]; with_reducible exact H2_) | (have H2_ := (Option.bind_some _ _).symm.trans H; with_reducible exact H2_) | with_reducible exact H | (rw [hy101]; exact H) | exact H
    have Ny101 := Aside0.mk hy101
    clear hy101
    obtain rfl := Option.some.inj H
    go_enter Try.func26, Try.ntmps26
    go_wp2_with (first | ((with_reducible refine gate_dst (N := 6) rfl ?_); refine Kd.R_lit Kd.string _ 9 ?hg (N := 6) ?hd (xs := ([(⟨#[97, 112, 112, 40, 78, 44, 121, 41, 32, 61, 32, 121, 10, 97, 112, 112, 40, 67, 40, 104, 44, 116, 41, 44, 121, 41, 32, 61, 32, 67, 40, 104, 44, 97, 112, 112, 40, 116, 44, 121, 41, 41, 10]⟩ : ByteArray), (⟨#[97, 112, 112, 40, 97, 112, 112, 40, 120, 44, 121, 41, 44, 122, 41]⟩ : ByteArray)] : List ByteArray)) (inner := [.string (⟨#[97, 112, 112, 40, 78, 44, 121, 41, 32, 61, 32, 121, 10, 97, 112, 112, 40, 67, 40, 104, 44, 116, 41, 44, 121, 41, 32, 61, 32, 67, 40, 104, 44, 97, 112, 112, 40, 116, 44, 121, 41, 41, 10]⟩ : ByteArray), .string (⟨#[97, 112, 112, 40, 97, 112, 112, 40, 120, 44, 121, 41, 44, 122, 41]⟩ : ByteArray)]) (ok := fun _ => True) (okp := fun _ => True) ?hr ?hp (fun _ hk => hk) trivial (Below.refl _ _) (Nat.le_refl _) (by simp) ?_; (case hd => rfl); (case hg => rfl); (case hr => first | (go_simp; done) | (go_simp; rfl)); (case hp => exact (Reps.one (show Kd.M Kd.string _ _ _ (⟨#[97, 112, 112, 40, 78, 44, 121, 41, 32, 61, 32, 121, 10, 97, 112, 112, 40, 67, 40, 104, 44, 116, 41, 44, 121, 41, 32, 61, 32, 67, 40, 104, 44, 97, 112, 112, 40, 116, 44, 121, 41, 41, 10]⟩ : ByteArray) [.string (⟨#[97, 112, 112, 40, 78, 44, 121, 41, 32, 61, 32, 121, 10, 97, 112, 112, 40, 67, 40, 104, 44, 116, 41, 44, 121, 41, 32, 61, 32, 67, 40, 104, 44, 97, 112, 112, 40, 116, 44, 121, 41, 41, 10]⟩ : ByteArray)] from rfl) (Reps.one (show Kd.M Kd.string _ _ _ (⟨#[97, 112, 112, 40, 97, 112, 112, 40, 120, 44, 121, 41, 44, 122, 41]⟩ : ByteArray) [.string (⟨#[97, 112, 112, 40, 97, 112, 112, 40, 120, 44, 121, 41, 44, 122, 41]⟩ : ByteArray)] from rfl) (Reps.none _ _)))); intro v102 w3 ho4 hb hg_ hnew_; clear hg_ hnew_; (first | rw [← Ny101.out] at ho4 | (simp only [Int.reduceToNat] at ho4; rw [← Ny101.out] at ho4)); have n0_ := Aside0.mk (Kd.R_lower ho4 (below_size (by repeat (first | (with_reducible first | exact HB.out | apply below_alloc | apply pw_below_drewN | apply below_drew1) | exact HB.out)))); have n1_ := Aside0.mk (below_step (by repeat (first | (with_reducible first | exact HB.out | apply below_alloc | apply pw_below_drewN | apply below_drew1) | exact HB.out)) hb); clear HB; have HO103 := n0_; have HB := n1_; clear n0_ n1_; clear hb ho4))
    go_ret
    exact ⟨_, by first | rfl | (simp [errW_none, errW_some] <;> rfl) | (simp [*, errW_none, errW_some] <;> rfl), by (with_reducible repeat (first | apply Kd.R_alloc | apply Kd.R_drewN | apply Kd.R_drew)); exact HO103.out, by repeat (first | (with_reducible first | exact HB.out | apply below_alloc | apply pw_below_drewN | apply below_drew1) | exact HB.out)⟩
  · rw [if_neg c2] at H
    have c2b0 : (a0 == 1) = false := beq_eq_false_iff_ne.mpr c2
    have c2b1 : (a0 != 1) = true := bne_iff_ne.mpr c2
    by_cases c5 : a0 = 2
    · rw [if_pos c5] at H
      have c5b0 : (a0 == 2) = true := beq_iff_eq.mpr c5
      have c5b1 : (a0 != 2) = false := bne_eq_false_iff_eq.mpr c5
      clear c5
      obtain ⟨y104, hy104⟩ : ∃ y_ : List ByteArray, y_ = (([(⟨#[97, 112, 112, 40, 78, 44, 121, 41, 32, 61, 32, 121, 10, 97, 112, 112, 40, 67, 40, 104, 44, 116, 41, 44, 121, 41, 32, 61, 32, 67, 40, 104, 44, 97, 112, 112, 40, 116, 44, 121, 41, 41, 10, 108, 101, 110, 40, 78, 41, 32, 61, 32, 90, 10, 108, 101, 110, 40, 67, 40, 104, 44, 116, 41, 41, 32, 61, 32, 83, 40, 108, 101, 110, 40, 116, 41, 41, 10]⟩ : ByteArray), (⟨#[108, 101, 110, 40, 97, 112, 112, 40, 120, 44, 121, 41, 41]⟩ : ByteArray)] : List ByteArray)) := ⟨_, rfl⟩
      replace H : (some y104) = some r := by first | (rw [hy104]; with_reducible exact H) | (have H2_ := (Option.bind_some _ _).symm.trans H; rw [hy104]; with_reducible exact H2_) | (have H2_ := (Option.bind_some _ _).symm.trans H; with_reducible exact H2_) | with_reducible exact H | (rw [hy104]; exact H) | exact H
      have Ny104 := Aside0.mk hy104
      clear hy104
      obtain rfl := Option.some.inj H
      go_enter Try.func26, Try.ntmps26
      go_wp2_with (first | ((with_reducible refine gate_dst (N := 9) rfl ?_); refine Kd.R_lit Kd.string _ 9 ?hg (N := 9) ?hd (xs := ([(⟨#[97, 112, 112, 40, 78, 44, 121, 41, 32, 61, 32, 121, 10, 97, 112, 112, 40, 67, 40, 104, 44, 116, 41, 44, 121, 41, 32, 61, 32, 67, 40, 104, 44, 97, 112, 112, 40, 116, 44, 121, 41, 41, 10, 108, 101, 110, 40, 78, 41, 32, 61, 32, 90, 10, 108, 101, 110, 40, 67, 40, 104, 44, 116, 41, 41, 32, 61, 32, 83, 40, 108, 101, 110, 40, 116, 41, 41, 10]⟩ : ByteArray), (⟨#[108, 101, 110, 40, 97, 112, 112, 40, 120, 44, 121, 41, 41]⟩ : ByteArray)] : List ByteArray)) (inner := [.string (⟨#[97, 112, 112, 40, 78, 44, 121, 41, 32, 61, 32, 121, 10, 97, 112, 112, 40, 67, 40, 104, 44, 116, 41, 44, 121, 41, 32, 61, 32, 67, 40, 104, 44, 97, 112, 112, 40, 116, 44, 121, 41, 41, 10, 108, 101, 110, 40, 78, 41, 32, 61, 32, 90, 10, 108, 101, 110, 40, 67, 40, 104, 44, 116, 41, 41, 32, 61, 32, 83, 40, 108, 101, 110, 40, 116, 41, 41, 10]⟩ : ByteArray), .string (⟨#[108, 101, 110, 40, 97, 112, 112, 40, 120, 44, 121, 41, 41]⟩ : ByteArray)]) (ok := fun _ => True) (okp := fun _ => True) ?hr ?hp (fun _ hk => hk) trivial (Below.refl _ _) (Nat.le_refl _) (by simp) ?_; (case hd => rfl); (case hg => rfl); (case hr => first | (go_simp; done) | (go_simp; rfl)); (case hp => exact (Reps.one (show Kd.M Kd.string _ _ _ (⟨#[97, 112, 112, 40, 78, 44, 121, 41, 32, 61, 32, 121, 10, 97, 112, 112, 40, 67, 40, 104, 44, 116, 41, 44, 121, 41, 32, 61, 32, 67, 40, 104, 44, 97, 112, 112, 40, 116, 44, 121, 41, 41, 10, 108, 101, 110, 40, 78, 41, 32, 61, 32, 90, 10, 108, 101, 110, 40, 67, 40, 104, 44, 116, 41, 41, 32, 61, 32, 83, 40, 108, 101, 110, 40, 116, 41, 41, 10]⟩ : ByteArray) [.string (⟨#[97, 112, 112, 40, 78, 44, 121, 41, 32, 61, 32, 121, 10, 97, 112, 112, 40, 67, 40, 104, 44, 116, 41, 44, 121, 41, 32, 61, 32, 67, 40, 104, 44, 97, 112, 112, 40, 116, 44, 121, 41, 41, 10, 108, 101, 110, 40, 78, 41, 32, 61, 32, 90, 10, 108, 101, 110, 40, 67, 40, 104, 44, 116, 41, 41, 32, 61, 32, 83, 40, 108, 101, 110, 40, 116, 41, 41, 10]⟩ : ByteArray)] from rfl) (Reps.one (show Kd.M Kd.string _ _ _ (⟨#[108, 101, 110, 40, 97, 112, 112, 40, 120, 44, 121, 41, 41]⟩ : ByteArray) [.string (⟨#[108, 101, 110, 40, 97, 112, 112, 40, 120, 44, 121, 41, 41]⟩ : ByteArray)] from rfl) (Reps.none _ _)))); intro v105 w6 ho7 hb hg_ hnew_; clear hg_ hnew_; (first | rw [← Ny104.out] at ho7 | (simp only [Int.reduceToNat] at ho7; rw [← Ny104.out] at ho7)); have n0_ := Aside0.mk (Kd.R_lower ho7 (below_size (by repeat (first | (with_reducible first | exact HB.out | apply below_alloc | apply pw_below_drewN | apply below_drew1) | exact HB.out)))); have n1_ := Aside0.mk (below_step (by repeat (first | (with_reducible first | exact HB.out | apply below_alloc | apply pw_below_drewN | apply below_drew1) | exact HB.out)) hb); clear HB; have HO106 := n0_; have HB := n1_; clear n0_ n1_; clear hb ho7))
      go_ret
      exact ⟨_, by first | rfl | (simp [errW_none, errW_some] <;> rfl) | (simp [*, errW_none, errW_some] <;> rfl), by (with_reducible repeat (first | apply Kd.R_alloc | apply Kd.R_drewN | apply Kd.R_drew)); exact HO106.out, by repeat (first | (with_reducible first | exact HB.out | apply below_alloc | apply pw_below_drewN | apply below_drew1) | exact HB.out)⟩
    · rw [if_neg c5] at H
      have c5b0 : (a0 == 2) = false := beq_eq_false_iff_ne.mpr c5
      have c5b1 : (a0 != 2) = true := bne_iff_ne.mpr c5
      by_cases c8 : a0 = 3
      · rw [if_pos c8] at H
        have c8b0 : (a0 == 3) = true := beq_iff_eq.mpr c8
        have c8b1 : (a0 != 3) = false := bne_eq_false_iff_eq.mpr c8
        clear c8
        obtain ⟨y107, hy107⟩ : ∃ y_ : List ByteArray, y_ = (([(⟨#[100, 98, 108, 40, 90, 41, 32, 61, 32, 90, 10, 100, 98, 108, 40, 83, 40, 120, 41, 41, 32, 61, 32, 83, 40, 83, 40, 100, 98, 108, 40, 120, 41, 41, 41, 10, 101, 118, 40, 90, 41, 32, 61, 32, 84, 10, 101, 118, 40, 83, 40, 120, 41, 41, 32, 61, 32, 111, 100, 40, 120, 41, 10, 111, 100, 40, 90, 41, 32, 61, 32, 70, 10, 111, 100, 40, 83, 40, 120, 41, 41, 32, 61, 32, 101, 118, 40, 120, 41, 10]⟩ : ByteArray), (⟨#[101, 118, 40, 100, 98, 108, 40, 120, 41, 41]⟩ : ByteArray)] : List ByteArray)) := ⟨_, rfl⟩
        replace H : (some y107) = some r := by first | (rw [hy107]; with_reducible exact H) | (have H2_ := (Option.bind_some _ _).symm.trans H; rw [hy107]; with_reducible exact H2_) | (have H2_ := (Option.bind_some _ _).symm.trans H; with_reducible exact H2_) | with_reducible exact H | (rw [hy107]; exact H) | exact H
        have Ny107 := Aside0.mk hy107
        clear hy107
        obtain rfl := Option.some.inj H
        go_enter Try.func26, Try.ntmps26
        go_wp2_with (first | ((with_reducible refine gate_dst (N := 12) rfl ?_); refine Kd.R_lit Kd.string _ 9 ?hg (N := 12) ?hd (xs := ([(⟨#[100, 98, 108, 40, 90, 41, 32, 61, 32, 90, 10, 100, 98, 108, 40, 83, 40, 120, 41, 41, 32, 61, 32, 83, 40, 83, 40, 100, 98, 108, 40, 120, 41, 41, 41, 10, 101, 118, 40, 90, 41, 32, 61, 32, 84, 10, 101, 118, 40, 83, 40, 120, 41, 41, 32, 61, 32, 111, 100, 40, 120, 41, 10, 111, 100, 40, 90, 41, 32, 61, 32, 70, 10, 111, 100, 40, 83, 40, 120, 41, 41, 32, 61, 32, 101, 118, 40, 120, 41, 10]⟩ : ByteArray), (⟨#[101, 118, 40, 100, 98, 108, 40, 120, 41, 41]⟩ : ByteArray)] : List ByteArray)) (inner := [.string (⟨#[100, 98, 108, 40, 90, 41, 32, 61, 32, 90, 10, 100, 98, 108, 40, 83, 40, 120, 41, 41, 32, 61, 32, 83, 40, 83, 40, 100, 98, 108, 40, 120, 41, 41, 41, 10, 101, 118, 40, 90, 41, 32, 61, 32, 84, 10, 101, 118, 40, 83, 40, 120, 41, 41, 32, 61, 32, 111, 100, 40, 120, 41, 10, 111, 100, 40, 90, 41, 32, 61, 32, 70, 10, 111, 100, 40, 83, 40, 120, 41, 41, 32, 61, 32, 101, 118, 40, 120, 41, 10]⟩ : ByteArray), .string (⟨#[101, 118, 40, 100, 98, 108, 40, 120, 41, 41]⟩ : ByteArray)]) (ok := fun _ => True) (okp := fun _ => True) ?hr ?hp (fun _ hk => hk) trivial (Below.refl _ _) (Nat.le_refl _) (by simp) ?_; (case hd => rfl); (case hg => rfl); (case hr => first | (go_simp; done) | (go_simp; rfl)); (case hp => exact (Reps.one (show Kd.M Kd.string _ _ _ (⟨#[100, 98, 108, 40, 90, 41, 32, 61, 32, 90, 10, 100, 98, 108, 40, 83, 40, 120, 41, 41, 32, 61, 32, 83, 40, 83, 40, 100, 98, 108, 40, 120, 41, 41, 41, 10, 101, 118, 40, 90, 41, 32, 61, 32, 84, 10, 101, 118, 40, 83, 40, 120, 41, 41, 32, 61, 32, 111, 100, 40, 120, 41, 10, 111, 100, 40, 90, 41, 32, 61, 32, 70, 10, 111, 100, 40, 83, 40, 120, 41, 41, 32, 61, 32, 101, 118, 40, 120, 41, 10]⟩ : ByteArray) [.string (⟨#[100, 98, 108, 40, 90, 41, 32, 61, 32, 90, 10, 100, 98, 108, 40, 83, 40, 120, 41, 41, 32, 61, 32, 83, 40, 83, 40, 100, 98, 108, 40, 120, 41, 41, 41, 10, 101, 118, 40, 90, 41, 32, 61, 32, 84, 10, 101, 118, 40, 83, 40, 120, 41, 41, 32, 61, 32, 111, 100, 40, 120, 41, 10, 111, 100, 40, 90, 41, 32, 61, 32, 70, 10, 111, 100, 40, 83, 40, 120, 41, 41, 32, 61, 32, 101, 118, 40, 120, 41, 10]⟩ : ByteArray)] from rfl) (Reps.one (show Kd.M Kd.string _ _ _ (⟨#[101, 118, 40, 100, 98, 108, 40, 120, 41, 41]⟩ : ByteArray) [.string (⟨#[101, 118, 40, 100, 98, 108, 40, 120, 41, 41]⟩ : ByteArray)] from rfl) (Reps.none _ _)))); intro v108 w9 ho10 hb hg_ hnew_; clear hg_ hnew_; (first | rw [← Ny107.out] at ho10 | (simp only [Int.reduceToNat] at ho10; rw [← Ny107.out] at ho10)); have n0_ := Aside0.mk (Kd.R_lower ho10 (below_size (by repeat (first | (with_reducible first | exact HB.out | apply below_alloc | apply pw_below_drewN | apply below_drew1) | exact HB.out)))); have n1_ := Aside0.mk (below_step (by repeat (first | (with_reducible first | exact HB.out | apply below_alloc | apply pw_below_drewN | apply below_drew1) | exact HB.out)) hb); clear HB; have HO109 := n0_; have HB := n1_; clear n0_ n1_; clear hb ho10))
        go_ret
        exact ⟨_, by first | rfl | (simp [errW_none, errW_some] <;> rfl) | (simp [*, errW_none, errW_some] <;> rfl), by (with_reducible repeat (first | apply Kd.R_alloc | apply Kd.R_drewN | apply Kd.R_drew)); exact HO109.out, by repeat (first | (with_reducible first | exact HB.out | apply below_alloc | apply pw_below_drewN | apply below_drew1) | exact HB.out)⟩
      · rw [if_neg c8] at H
        have c8b0 : (a0 == 3) = false := beq_eq_false_iff_ne.mpr c8
        have c8b1 : (a0 != 3) = true := bne_iff_ne.mpr c8
        by_cases c11 : a0 = 4
        · rw [if_pos c11] at H
          have c11b0 : (a0 == 4) = true := beq_iff_eq.mpr c11
          have c11b1 : (a0 != 4) = false := bne_eq_false_iff_eq.mpr c11
          clear c11
          obtain ⟨y110, hy110⟩ : ∃ y_ : List ByteArray, y_ = (([(⟨#[97, 100, 100, 40, 90, 44, 121, 41, 32, 61, 32, 121, 10, 97, 100, 100, 40, 83, 40, 120, 41, 44, 121, 41, 32, 61, 32, 97, 100, 100, 40, 120, 44, 83, 40, 121, 41, 41, 10]⟩ : ByteArray), (⟨#[97, 100, 100, 40, 120, 44, 90, 41]⟩ : ByteArray)] : List ByteArray)) := ⟨_, rfl⟩
          replace H : (some y110) = some r := by first | (rw [hy110]; with_reducible exact H) | (have H2_ := (Option.bind_some _ _).symm.trans H; rw [hy110]; with_reducible exact H2_) | (have H2_ := (Option.bind_some _ _).symm.trans H; with_reducible exact H2_) | with_reducible exact H | (rw [hy110]; exact H) | exact H
          have Ny110 := Aside0.mk hy110
          clear hy110
          obtain rfl := Option.some.inj H
          go_enter Try.func26, Try.ntmps26
          go_wp2_with (first | ((with_reducible refine gate_dst (N := 15) rfl ?_); refine Kd.R_lit Kd.string _ 9 ?hg (N := 15) ?hd (xs := ([(⟨#[97, 100, 100, 40, 90, 44, 121, 41, 32, 61, 32, 121, 10, 97, 100, 100, 40, 83, 40, 120, 41, 44, 121, 41, 32, 61, 32, 97, 100, 100, 40, 120, 44, 83, 40, 121, 41, 41, 10]⟩ : ByteArray), (⟨#[97, 100, 100, 40, 120, 44, 90, 41]⟩ : ByteArray)] : List ByteArray)) (inner := [.string (⟨#[97, 100, 100, 40, 90, 44, 121, 41, 32, 61, 32, 121, 10, 97, 100, 100, 40, 83, 40, 120, 41, 44, 121, 41, 32, 61, 32, 97, 100, 100, 40, 120, 44, 83, 40, 121, 41, 41, 10]⟩ : ByteArray), .string (⟨#[97, 100, 100, 40, 120, 44, 90, 41]⟩ : ByteArray)]) (ok := fun _ => True) (okp := fun _ => True) ?hr ?hp (fun _ hk => hk) trivial (Below.refl _ _) (Nat.le_refl _) (by simp) ?_; (case hd => rfl); (case hg => rfl); (case hr => first | (go_simp; done) | (go_simp; rfl)); (case hp => exact (Reps.one (show Kd.M Kd.string _ _ _ (⟨#[97, 100, 100, 40, 90, 44, 121, 41, 32, 61, 32, 121, 10, 97, 100, 100, 40, 83, 40, 120, 41, 44, 121, 41, 32, 61, 32, 97, 100, 100, 40, 120, 44, 83, 40, 121, 41, 41, 10]⟩ : ByteArray) [.string (⟨#[97, 100, 100, 40, 90, 44, 121, 41, 32, 61, 32, 121, 10, 97, 100, 100, 40, 83, 40, 120, 41, 44, 121, 41, 32, 61, 32, 97, 100, 100, 40, 120, 44, 83, 40, 121, 41, 41, 10]⟩ : ByteArray)] from rfl) (Reps.one (show Kd.M Kd.string _ _ _ (⟨#[97, 100, 100, 40, 120, 44, 90, 41]⟩ : ByteArray) [.string (⟨#[97, 100, 100, 40, 120, 44, 90, 41]⟩ : ByteArray)] from rfl) (Reps.none _ _)))); intro v111 w12 ho13 hb hg_ hnew_; clear hg_ hnew_; (first | rw [← Ny110.out] at ho13 | (simp only [Int.reduceToNat] at ho13; rw [← Ny110.out] at ho13)); have n0_ := Aside0.mk (Kd.R_lower ho13 (below_size (by repeat (first | (with_reducible first | exact HB.out | apply below_alloc | apply pw_below_drewN | apply below_drew1) | exact HB.out)))); have n1_ := Aside0.mk (below_step (by repeat (first | (with_reducible first | exact HB.out | apply below_alloc | apply pw_below_drewN | apply below_drew1) | exact HB.out)) hb); clear HB; have HO112 := n0_; have HB := n1_; clear n0_ n1_; clear hb ho13))
          go_ret
          exact ⟨_, by first | rfl | (simp [errW_none, errW_some] <;> rfl) | (simp [*, errW_none, errW_some] <;> rfl), by (with_reducible repeat (first | apply Kd.R_alloc | apply Kd.R_drewN | apply Kd.R_drew)); exact HO112.out, by repeat (first | (with_reducible first | exact HB.out | apply below_alloc | apply pw_below_drewN | apply below_drew1) | exact HB.out)⟩
        · rw [if_neg c11] at H
          have c11b0 : (a0 == 4) = false := beq_eq_false_iff_ne.mpr c11
          have c11b1 : (a0 != 4) = true := bne_iff_ne.mpr c11
          by_cases c14 : a0 = 5
          · rw [if_pos c14] at H
            have c14b0 : (a0 == 5) = true := beq_iff_eq.mpr c14
            have c14b1 : (a0 != 5) = false := bne_eq_false_iff_eq.mpr c14
            clear c14
            obtain ⟨y113, hy113⟩ : ∃ y_ : List ByteArray, y_ = (([(⟨#[101, 40, 65, 44, 97, 44, 98, 41, 32, 61, 32, 97, 10, 101, 40, 66, 44, 97, 44, 98, 41, 32, 61, 32, 98, 10, 109, 40, 78, 41, 32, 61, 32, 70, 10, 109, 40, 67, 40, 104, 44, 116, 41, 41, 32, 61, 32, 101, 40, 104, 44, 110, 40, 116, 41, 44, 109, 40, 116, 41, 41, 10, 110, 40, 78, 41, 32, 61, 32, 70, 10, 110, 40, 67, 40, 104, 44, 116, 41, 41, 32, 61, 32, 101, 40, 104, 44, 84, 44, 109, 40, 116, 41, 41, 10]⟩ : ByteArray), (⟨#[109, 40, 120, 41]⟩ : ByteArray)] : List ByteArray)) := ⟨_, rfl⟩
            replace H : (some y113) = some r := by first | (rw [hy113]; with_reducible exact H) | (have H2_ := (Option.bind_some _ _).symm.trans H; rw [hy113]; with_reducible exact H2_) | (have H2_ := (Option.bind_some _ _).symm.trans H; with_reducible exact H2_) | with_reducible exact H | (rw [hy113]; exact H) | exact H
            have Ny113 := Aside0.mk hy113
            clear hy113
            obtain rfl := Option.some.inj H
            go_enter Try.func26, Try.ntmps26
            go_wp2_with (first | ((with_reducible refine gate_dst (N := 18) rfl ?_); refine Kd.R_lit Kd.string _ 9 ?hg (N := 18) ?hd (xs := ([(⟨#[101, 40, 65, 44, 97, 44, 98, 41, 32, 61, 32, 97, 10, 101, 40, 66, 44, 97, 44, 98, 41, 32, 61, 32, 98, 10, 109, 40, 78, 41, 32, 61, 32, 70, 10, 109, 40, 67, 40, 104, 44, 116, 41, 41, 32, 61, 32, 101, 40, 104, 44, 110, 40, 116, 41, 44, 109, 40, 116, 41, 41, 10, 110, 40, 78, 41, 32, 61, 32, 70, 10, 110, 40, 67, 40, 104, 44, 116, 41, 41, 32, 61, 32, 101, 40, 104, 44, 84, 44, 109, 40, 116, 41, 41, 10]⟩ : ByteArray), (⟨#[109, 40, 120, 41]⟩ : ByteArray)] : List ByteArray)) (inner := [.string (⟨#[101, 40, 65, 44, 97, 44, 98, 41, 32, 61, 32, 97, 10, 101, 40, 66, 44, 97, 44, 98, 41, 32, 61, 32, 98, 10, 109, 40, 78, 41, 32, 61, 32, 70, 10, 109, 40, 67, 40, 104, 44, 116, 41, 41, 32, 61, 32, 101, 40, 104, 44, 110, 40, 116, 41, 44, 109, 40, 116, 41, 41, 10, 110, 40, 78, 41, 32, 61, 32, 70, 10, 110, 40, 67, 40, 104, 44, 116, 41, 41, 32, 61, 32, 101, 40, 104, 44, 84, 44, 109, 40, 116, 41, 41, 10]⟩ : ByteArray), .string (⟨#[109, 40, 120, 41]⟩ : ByteArray)]) (ok := fun _ => True) (okp := fun _ => True) ?hr ?hp (fun _ hk => hk) trivial (Below.refl _ _) (Nat.le_refl _) (by simp) ?_; (case hd => rfl); (case hg => rfl); (case hr => first | (go_simp; done) | (go_simp; rfl)); (case hp => exact (Reps.one (show Kd.M Kd.string _ _ _ (⟨#[101, 40, 65, 44, 97, 44, 98, 41, 32, 61, 32, 97, 10, 101, 40, 66, 44, 97, 44, 98, 41, 32, 61, 32, 98, 10, 109, 40, 78, 41, 32, 61, 32, 70, 10, 109, 40, 67, 40, 104, 44, 116, 41, 41, 32, 61, 32, 101, 40, 104, 44, 110, 40, 116, 41, 44, 109, 40, 116, 41, 41, 10, 110, 40, 78, 41, 32, 61, 32, 70, 10, 110, 40, 67, 40, 104, 44, 116, 41, 41, 32, 61, 32, 101, 40, 104, 44, 84, 44, 109, 40, 116, 41, 41, 10]⟩ : ByteArray) [.string (⟨#[101, 40, 65, 44, 97, 44, 98, 41, 32, 61, 32, 97, 10, 101, 40, 66, 44, 97, 44, 98, 41, 32, 61, 32, 98, 10, 109, 40, 78, 41, 32, 61, 32, 70, 10, 109, 40, 67, 40, 104, 44, 116, 41, 41, 32, 61, 32, 101, 40, 104, 44, 110, 40, 116, 41, 44, 109, 40, 116, 41, 41, 10, 110, 40, 78, 41, 32, 61, 32, 70, 10, 110, 40, 67, 40, 104, 44, 116, 41, 41, 32, 61, 32, 101, 40, 104, 44, 84, 44, 109, 40, 116, 41, 41, 10]⟩ : ByteArray)] from rfl) (Reps.one (show Kd.M Kd.string _ _ _ (⟨#[109, 40, 120, 41]⟩ : ByteArray) [.string (⟨#[109, 40, 120, 41]⟩ : ByteArray)] from rfl) (Reps.none _ _)))); intro v114 w15 ho16 hb hg_ hnew_; clear hg_ hnew_; (first | rw [← Ny113.out] at ho16 | (simp only [Int.reduceToNat] at ho16; rw [← Ny113.out] at ho16)); have n0_ := Aside0.mk (Kd.R_lower ho16 (below_size (by repeat (first | (with_reducible first | exact HB.out | apply below_alloc | apply pw_below_drewN | apply below_drew1) | exact HB.out)))); have n1_ := Aside0.mk (below_step (by repeat (first | (with_reducible first | exact HB.out | apply below_alloc | apply pw_below_drewN | apply below_drew1) | exact HB.out)) hb); clear HB; have HO115 := n0_; have HB := n1_; clear n0_ n1_; clear hb ho16))
            go_ret
            exact ⟨_, by first | rfl | (simp [errW_none, errW_some] <;> rfl) | (simp [*, errW_none, errW_some] <;> rfl), by (with_reducible repeat (first | apply Kd.R_alloc | apply Kd.R_drewN | apply Kd.R_drew)); exact HO115.out, by repeat (first | (with_reducible first | exact HB.out | apply below_alloc | apply pw_below_drewN | apply below_drew1) | exact HB.out)⟩
          · rw [if_neg c14] at H
            have c14b0 : (a0 == 5) = false := beq_eq_false_iff_ne.mpr c14
            have c14b1 : (a0 != 5) = true := bne_iff_ne.mpr c14
            obtain ⟨y116, hy116⟩ : ∃ y_ : List ByteArray, y_ = (([(⟨#[]⟩ : ByteArray), (⟨#[]⟩ : ByteArray)] : List ByteArray)) := ⟨_, rfl⟩
            replace H : (some y116) = some r := by first | (rw [hy116]; with_reducible exact H) | (have H2_ := (Option.bind_some _ _).symm.trans H; rw [hy116]; with_reducible exact H2_) | (have H2_ := (Option.bind_some _ _).symm.trans H; with_reducible exact H2_) | with_reducible exact H | (rw [hy116]; exact H) | exact H
            have Ny116 := Aside0.mk hy116
            clear hy116
            obtain rfl := Option.some.inj H
            go_enter Try.func26, Try.ntmps26
            go_wp2_with (first | ((with_reducible refine gate_dst (N := 19) rfl ?_); refine Kd.R_lit Kd.string _ 9 ?hg (N := 19) ?hd (xs := ([(⟨#[]⟩ : ByteArray), (⟨#[]⟩ : ByteArray)] : List ByteArray)) (inner := [.string (⟨#[]⟩ : ByteArray), .string (⟨#[]⟩ : ByteArray)]) (ok := fun _ => True) (okp := fun _ => True) ?hr ?hp (fun _ hk => hk) trivial (Below.refl _ _) (Nat.le_refl _) (by simp) ?_; (case hd => rfl); (case hg => rfl); (case hr => first | (go_simp; done) | (go_simp; rfl)); (case hp => exact (Reps.one (show Kd.M Kd.string _ _ _ (⟨#[]⟩ : ByteArray) [.string (⟨#[]⟩ : ByteArray)] from rfl) (Reps.one (show Kd.M Kd.string _ _ _ (⟨#[]⟩ : ByteArray) [.string (⟨#[]⟩ : ByteArray)] from rfl) (Reps.none _ _)))); intro v117 w17 ho18 hb hg_ hnew_; clear hg_ hnew_; (first | rw [← Ny116.out] at ho18 | (simp only [Int.reduceToNat] at ho18; rw [← Ny116.out] at ho18)); have n0_ := Aside0.mk (Kd.R_lower ho18 (below_size (by repeat (first | (with_reducible first | exact HB.out | apply below_alloc | apply pw_below_drewN | apply below_drew1) | exact HB.out)))); have n1_ := Aside0.mk (below_step (by repeat (first | (with_reducible first | exact HB.out | apply below_alloc | apply pw_below_drewN | apply below_drew1) | exact HB.out)) hb); clear HB; have HO118 := n0_; have HB := n1_; clear n0_ n1_; clear hb ho18))
            go_ret
            exact ⟨_, by first | rfl | (simp [errW_none, errW_some] <;> rfl) | (simp [*, errW_none, errW_some] <;> rfl), by (with_reducible repeat (first | apply Kd.R_alloc | apply Kd.R_drewN | apply Kd.R_drew)); exact HO118.out, by repeat (first | (with_reducible first | exact HB.out | apply below_alloc | apply pw_below_drewN | apply below_drew1) | exact HB.out)⟩

/-! ### spec_ExampleGoal: function 10 -/
def spec_ExampleGoal.f (a0 : Int) : Option (ByteArray) := (spec_l32Texts.f a0).bind fun t119 => (if 1 < (t119.length : Int) then (some (rdOf ByteArray.empty t119 1)) else (none))
set_option maxHeartbeats 8000000 in
set_option maxRecDepth 100000 in
theorem spec_ExampleGoal.calls (a0 : Int) (r : ByteArray) (w : World) (h : spec_ExampleGoal.f a0 = some r) :
    Calls Try.prog 10 #[.int .i64 a0] w fun e w' => e = .returned (.string r) ∧ Below w.heap.size w w' := by
  have HB := Aside0.mk (Below.refl w.heap.size w)
  have H : ((spec_l32Texts.f a0).bind fun t119 => (if 1 < (t119.length : Int) then (some (rdOf ByteArray.empty t119 1)) else (none))) = some r := h
  clear h
  replace H := Option.bind_eq_some_iff.mp H
  obtain ⟨t119, A20, H⟩ := H
  replace H : (if 1 < (t119.length : Int) then (some (rdOf ByteArray.empty t119 1)) else (none)) = some r := H
  have A2 := Aside0.mk A20
  clear A20
  by_cases c3 : 1 < (t119.length : Int)
  · rw [if_pos c3] at H
    have c3b0 : decide (1 < (t119.length : Int)) = true := decide_eq_true c3
    have c3b1 : decide (1 < t119.length) = true := decide_eq_true (by omega)
    clear c3
    obtain rfl := Option.some.inj H
    go_enter Try.func10, Try.ntmps10
    go_wp2_with (first | ((with_reducible refine gate_callee (f := 26) rfl ?_); refine goesL_ (some 4) rfl rfl Try.func26 (by kernel_rfl) rfl #[.int .i64 a0] rfl (by (try simp only [List.map_toArray, List.map_cons, List.map_nil]); first | done | rfl | (simp only [List.length_drop, List.length_take]; rfl)) ?_; (with_reducible refine (spec_l32Texts.calls a0 t119 _ A2.out).mono ?_); rintro e w4 ⟨v120, rfl, ho0, hb⟩; refine ⟨_, rfl, ?_⟩; have n0_ := Aside0.mk (Kd.R_lower ho0 (below_size (by repeat (first | (with_reducible first | exact HB.out | apply below_alloc | apply pw_below_drewN | apply below_drew1) | exact HB.out)))); have n1_ := Aside0.mk (below_step (by repeat (first | (with_reducible first | exact HB.out | apply below_alloc | apply pw_below_drewN | apply below_drew1) | exact HB.out)) hb); clear HB; have HO121 := n0_; have HB := n1_; clear n0_ n1_; (try clear hb); (try clear hb2); (try clear hk); (try clear hi); (try clear ho0); obtain ⟨Ao5, co5, eo5⟩ := Kd.R_slice HO121.out; subst eo5; have p122 : 0 ≤ (1 : Int) := (by omega); have q122 : 1 < (t119.length : Int) := of_decide_eq_true (by first | (with_reducible assumption) | assumption); obtain ⟨ad122, e122, hx122_0⟩ := Kd.at_string (Kd.R_reads' HO121.out).2.2 1 p122 q122; cases e122; (try simp only [show (1 : Int).toNat = 1 from rfl, Nat.reduceMul, Nat.reduceEqDiff, Go.Addr.add, ↓reduceIte] at hx122_0); have qi122 : (1 < t119.length) = True := eq_true (by omega); (try rw [show ((1 : Int)).toNat = 1 from rfl] at hx122_0); replace p122 := eq_true p122; replace q122 := eq_true q122))
    go_ret
    exact ⟨by first | rfl | (simp [errW_none, errW_some] <;> rfl) | (simp [*, errW_none, errW_some] <;> rfl), by repeat (first | (with_reducible first | exact HB.out | apply below_alloc | apply pw_below_drewN | apply below_drew1) | exact HB.out)⟩
  · rw [if_neg c3] at H
    exact absurd H (by simp)

/-! ### impl_ExampleGoal: function 11 -/
def impl_ExampleGoal.f (a0 : Int) : Option (ByteArray) := if a0 = 1 then (some (⟨#[97, 112, 112, 40, 97, 112, 112, 40, 120, 44, 121, 41, 44, 122, 41]⟩ : ByteArray)) else (if a0 = 2 then (some (⟨#[108, 101, 110, 40, 97, 112, 112, 40, 120, 44, 121, 41, 41]⟩ : ByteArray)) else (if a0 = 3 then (some (⟨#[101, 118, 40, 100, 98, 108, 40, 120, 41, 41]⟩ : ByteArray)) else (if a0 = 4 then (some (⟨#[97, 100, 100, 40, 120, 44, 90, 41]⟩ : ByteArray)) else (if a0 = 5 then (some (⟨#[109, 40, 120, 41]⟩ : ByteArray)) else (some (⟨#[]⟩ : ByteArray))))))
set_option maxHeartbeats 8000000 in
set_option maxRecDepth 100000 in
theorem impl_ExampleGoal.calls (a0 : Int) (r : ByteArray) (w : World) (h : impl_ExampleGoal.f a0 = some r) :
    Calls Try.prog 11 #[.int .i64 a0] w fun e w' => e = .returned (.string r) ∧ Drawn0 w w' := by
  have H : (if a0 = 1 then (some (⟨#[97, 112, 112, 40, 97, 112, 112, 40, 120, 44, 121, 41, 44, 122, 41]⟩ : ByteArray)) else (if a0 = 2 then (some (⟨#[108, 101, 110, 40, 97, 112, 112, 40, 120, 44, 121, 41, 41]⟩ : ByteArray)) else (if a0 = 3 then (some (⟨#[101, 118, 40, 100, 98, 108, 40, 120, 41, 41]⟩ : ByteArray)) else (if a0 = 4 then (some (⟨#[97, 100, 100, 40, 120, 44, 90, 41]⟩ : ByteArray)) else (if a0 = 5 then (some (⟨#[109, 40, 120, 41]⟩ : ByteArray)) else (some (⟨#[]⟩ : ByteArray))))))) = some r := h
  clear h
  by_cases c2 : a0 = 1
  · rw [if_pos c2] at H
    have c2b0 : (a0 == 1) = true := beq_iff_eq.mpr c2
    have c2b1 : (a0 != 1) = false := bne_eq_false_iff_eq.mpr c2
    clear c2
    obtain rfl := Option.some.inj H
    go_enter Try.func11, Try.ntmps11
    go_wp2
    go_ret
    exact ⟨by first | rfl | (simp; done) | (simp [*]; done), by repeat (first | exact Drawn0.refl _ | apply Drawn0.step)⟩
  · rw [if_neg c2] at H
    have c2b0 : (a0 == 1) = false := beq_eq_false_iff_ne.mpr c2
    have c2b1 : (a0 != 1) = true := bne_iff_ne.mpr c2
    by_cases c3 : a0 = 2
    · rw [if_pos c3] at H
      have c3b0 : (a0 == 2) = true := beq_iff_eq.mpr c3
      have c3b1 : (a0 != 2) = false := bne_eq_false_iff_eq.mpr c3
      clear c3
      obtain rfl := Option.some.inj H
      go_enter Try.func11, Try.ntmps11
      go_wp2
      go_ret
      exact ⟨by first | rfl | (simp; done) | (simp [*]; done), by repeat (first | exact Drawn0.refl _ | apply Drawn0.step)⟩
    · rw [if_neg c3] at H
      have c3b0 : (a0 == 2) = false := beq_eq_false_iff_ne.mpr c3
      have c3b1 : (a0 != 2) = true := bne_iff_ne.mpr c3
      by_cases c4 : a0 = 3
      · rw [if_pos c4] at H
        have c4b0 : (a0 == 3) = true := beq_iff_eq.mpr c4
        have c4b1 : (a0 != 3) = false := bne_eq_false_iff_eq.mpr c4
        clear c4
        obtain rfl := Option.some.inj H
        go_enter Try.func11, Try.ntmps11
        go_wp2
        go_ret
        exact ⟨by first | rfl | (simp; done) | (simp [*]; done), by repeat (first | exact Drawn0.refl _ | apply Drawn0.step)⟩
      · rw [if_neg c4] at H
        have c4b0 : (a0 == 3) = false := beq_eq_false_iff_ne.mpr c4
        have c4b1 : (a0 != 3) = true := bne_iff_ne.mpr c4
        by_cases c5 : a0 = 4
        · rw [if_pos c5] at H
          have c5b0 : (a0 == 4) = true := beq_iff_eq.mpr c5
          have c5b1 : (a0 != 4) = false := bne_eq_false_iff_eq.mpr c5
          clear c5
          obtain rfl := Option.some.inj H
          go_enter Try.func11, Try.ntmps11
          go_wp2
          go_ret
          exact ⟨by first | rfl | (simp; done) | (simp [*]; done), by repeat (first | exact Drawn0.refl _ | apply Drawn0.step)⟩
        · rw [if_neg c5] at H
          have c5b0 : (a0 == 4) = false := beq_eq_false_iff_ne.mpr c5
          have c5b1 : (a0 != 4) = true := bne_iff_ne.mpr c5
          by_cases c6 : a0 = 5
          · rw [if_pos c6] at H
            have c6b0 : (a0 == 5) = true := beq_iff_eq.mpr c6
            have c6b1 : (a0 != 5) = false := bne_eq_false_iff_eq.mpr c6
            clear c6
            obtain rfl := Option.some.inj H
            go_enter Try.func11, Try.ntmps11
            go_wp2
            go_ret
            exact ⟨by first | rfl | (simp; done) | (simp [*]; done), by repeat (first | exact Drawn0.refl _ | apply Drawn0.step)⟩
          · rw [if_neg c6] at H
            have c6b0 : (a0 == 5) = false := beq_eq_false_iff_ne.mpr c6
            have c6b1 : (a0 != 5) = true := bne_iff_ne.mpr c6
            obtain rfl := Option.some.inj H
            go_enter Try.func11, Try.ntmps11
            go_wp2
            go_ret
            exact ⟨by first | rfl | (simp; done) | (simp [*]; done), by repeat (first | exact Drawn0.refl _ | apply Drawn0.step)⟩

/-! ### laws_FnExactExampleGoal: function 4 -/
def laws_FnExactExampleGoal.f (a0 : Int) : Option (Bool) := (spec_ExampleGoal.f a0).bind fun t123 => ((impl_ExampleGoal.f a0).bind fun t124 => (if t124.toList = t123.toList then (some true) else (some false)))
set_option maxHeartbeats 8000000 in
set_option maxRecDepth 100000 in
theorem laws_FnExactExampleGoal.calls (a0 : Int) (r : Bool) (w : World) (h : laws_FnExactExampleGoal.f a0 = some r) :
    Calls Try.prog 4 #[.int .i64 a0] w fun e w' => e = .returned (.bool r) ∧ Below w.heap.size w w' := by
  have HB := Aside0.mk (Below.refl w.heap.size w)
  have H : ((spec_ExampleGoal.f a0).bind fun t123 => ((impl_ExampleGoal.f a0).bind fun t124 => (if t124.toList = t123.toList then (some true) else (some false)))) = some r := h
  clear h
  replace H := Option.bind_eq_some_iff.mp H
  obtain ⟨t123, A20, H⟩ := H
  replace H : ((impl_ExampleGoal.f a0).bind fun t124 => (if t124.toList = t123.toList then (some true) else (some false))) = some r := H
  have A2 := Aside0.mk A20
  clear A20
  replace H := Option.bind_eq_some_iff.mp H
  obtain ⟨t124, A30, H⟩ := H
  replace H : (if t124.toList = t123.toList then (some true) else (some false)) = some r := H
  have A3 := Aside0.mk A30
  clear A30
  by_cases c4 : t124.toList = t123.toList
  · rw [if_pos c4] at H
    have c4b0 : (t124.toList == t123.toList) = true := beq_iff_eq.mpr c4
    have c4b1 : (t124.toList != t123.toList) = false := bne_eq_false_iff_eq.mpr c4
    clear c4
    obtain rfl := Option.some.inj H
    go_enter Try.func4, Try.ntmps4
    go_wp2_with (first | ((with_reducible refine gate_callee (f := 10) rfl ?_); refine goesL_ (some 6) rfl rfl Try.func10 (by kernel_rfl) rfl #[.int .i64 a0] rfl (by (try simp only [List.map_toArray, List.map_cons, List.map_nil]); first | done | rfl | (simp only [List.length_drop, List.length_take]; rfl)) ?_; (with_reducible refine (spec_ExampleGoal.calls a0 t123 _ A2.out).mono ?_); rintro e w5 ⟨rfl, hb⟩; refine ⟨_, rfl, ?_⟩; have n0_ := Aside0.mk (below_step (by repeat (first | (with_reducible first | exact HB.out | apply below_alloc | apply pw_below_drewN | apply below_drew1) | exact HB.out)) hb); clear HB; have HB := n0_; clear n0_; (try clear hb); (try clear hb2); (try clear hk); (try clear hi)) | ((with_reducible refine gate_callee (f := 11) rfl ?_); refine goesL_ (some 8) rfl rfl Try.func11 (by kernel_rfl) rfl #[.int .i64 a0] rfl (by (try simp only [List.map_toArray, List.map_cons, List.map_nil]); first | done | rfl | (simp only [List.length_drop, List.length_take]; rfl)) ?_; (with_reducible refine (impl_ExampleGoal.calls a0 t124 _ A3.out).mono ?_); rintro e w' ⟨rfl, ⟨nd, rfl⟩⟩; refine ⟨_, rfl, ?_⟩))
    go_ret
    exact ⟨by first | rfl | (simp [errW_none, errW_some] <;> rfl) | (simp [*, errW_none, errW_some] <;> rfl), by repeat (first | (with_reducible first | exact HB.out | apply below_alloc | apply pw_below_drewN | apply below_drew1) | exact HB.out)⟩
  · rw [if_neg c4] at H
    have c4b0 : (t124.toList == t123.toList) = false := beq_eq_false_iff_ne.mpr c4
    have c4b1 : (t124.toList != t123.toList) = true := bne_iff_ne.mpr c4
    obtain rfl := Option.some.inj H
    go_enter Try.func4, Try.ntmps4
    go_wp2_with (first | ((with_reducible refine gate_callee (f := 10) rfl ?_); refine goesL_ (some 6) rfl rfl Try.func10 (by kernel_rfl) rfl #[.int .i64 a0] rfl (by (try simp only [List.map_toArray, List.map_cons, List.map_nil]); first | done | rfl | (simp only [List.length_drop, List.length_take]; rfl)) ?_; (with_reducible refine (spec_ExampleGoal.calls a0 t123 _ A2.out).mono ?_); rintro e w6 ⟨rfl, hb⟩; refine ⟨_, rfl, ?_⟩; have n0_ := Aside0.mk (below_step (by repeat (first | (with_reducible first | exact HB.out | apply below_alloc | apply pw_below_drewN | apply below_drew1) | exact HB.out)) hb); clear HB; have HB := n0_; clear n0_; (try clear hb); (try clear hb2); (try clear hk); (try clear hi)) | ((with_reducible refine gate_callee (f := 11) rfl ?_); refine goesL_ (some 8) rfl rfl Try.func11 (by kernel_rfl) rfl #[.int .i64 a0] rfl (by (try simp only [List.map_toArray, List.map_cons, List.map_nil]); first | done | rfl | (simp only [List.length_drop, List.length_take]; rfl)) ?_; (with_reducible refine (impl_ExampleGoal.calls a0 t124 _ A3.out).mono ?_); rintro e w' ⟨rfl, ⟨nd, rfl⟩⟩; refine ⟨_, rfl, ?_⟩))
    go_ret
    exact ⟨by first | rfl | (simp [errW_none, errW_some] <;> rfl) | (simp [*, errW_none, errW_some] <;> rfl), by repeat (first | (with_reducible first | exact HB.out | apply below_alloc | apply pw_below_drewN | apply below_drew1) | exact HB.out)⟩

/-- THE ONE PURE STATEMENT of laws_FnExactExampleGoal: yours. -/
def laws_FnExactExampleGoal.Pure : Prop := ∀ (a0 : Int), (Lit.int .i64 a0).wf = true → laws_FnExactExampleGoal.f a0 = some true
theorem laws_FnExactExampleGoal.walk (P : laws_FnExactExampleGoal.Pure) (a0 : Int) (w : World) (w0 : (Lit.int .i64 a0).wf = true) :
    Calls Try.prog 4 #[.int .i64 a0] w fun e w' => e = .returned (.bool true) ∧ Below w.heap.size w w' := by
  have h := P a0 w0
  refine (laws_FnExactExampleGoal.calls a0 true w h).mono ?_
  rintro e w' ⟨rfl, hd⟩
  exact ⟨rfl, hd⟩

end Go.Proofs.Ytjfpbaknhaikmaa.PFnExactExampleGoal
