/- For every policy the program's PolicyName answers what the reference's answers; no condition beyond the machine's own whole numbers. -/
import Derived.Test.YtjfpbaknhaikmaaPFnExactPolicyNamex1
namespace Go.Proofs.Ytjfpbaknhaikmaa.Pure
open Go.RowKit Go.Proofs.Ytjfpbaknhaikmaa.PFnExactPolicyName Go.Proofs.YtjfpbaknhaikmaaW.PrintWords Go.Proofs.YtjfpbaknhaikmaaW.PrintLast

/-- YOURS: ∀ (a0 : Int), (Lit.int .i64 a0).wf = true → laws_FnExactPolicyName.f a0 = some true
What it reaches (each with k first where it has rounds; `.mono`: more rounds tell the same; `.l0`, ..: its loops, with `.mono_l`): spec_l1In.f, spec_PolicyName.f, impl_in.f, impl_word.f, impl_PolicyName.f, laws_FnExactPolicyName.f -/
theorem FnExactPolicyName : laws_FnExactPolicyName.Pure := by
  intro a h
  have hw : -9223372036854775808 ≤ a ∧ a ≤ 9223372036854775807 := by
    simp [Lit.wf, IntKind.min, IntKind.max, IntKind.signed, IntKind.bits] at h
    omega
  unfold laws_FnExactPolicyName.f spec_PolicyName.f impl_PolicyName.f impl_word.f spec_l1In.f impl_in.f
  by_cases h1 : a = 1
  · subst h1; decide +kernel
  by_cases h2 : a = 2
  · subst h2; decide +kernel
  by_cases h3 : a = 3
  · subst h3; decide +kernel
  by_cases h0 : a = 0
  · subst h0; decide +kernel
  by_cases hl : a < 0
  · have e1 : ¬ a ≥ 1 := by omega
    have e2 : ¬ 0 ≤ a := by omega
    simp [e1, e2]
  · have e1 : a ≥ 1 := by omega
    have e2 : 0 ≤ a := by omega
    have e3 : ¬ a ≤ 3 := by omega
    have e4 : wrap64 3 = 3 := by unfold wrap64; omega
    simp [e1, e2, e3, e4]

end Go.Proofs.Ytjfpbaknhaikmaa.Pure
