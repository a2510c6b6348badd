/- For every number the program's ExampleGoal answers what the reference's answers; no condition. -/
import Derived.Test.YtjfpbaknhaikmaaPFnExactExampleGoalx1
namespace Go.Proofs.Ytjfpbaknhaikmaa.Pure
open Go.RowKit Go.Proofs.Ytjfpbaknhaikmaa.PFnExactExampleGoal Go.Proofs.YtjfpbaknhaikmaaW.PrintWords Go.Proofs.YtjfpbaknhaikmaaW.PrintLast

/-- YOURS: ∀ (a0 : Int), (Lit.int .i64 a0).wf = true → laws_FnExactExampleGoal.f a0 = some true
What it reaches (each with k first where it has rounds; `.mono`: more rounds tell the same; `.l0`, ..: its loops, with `.mono_l`): spec_l32Texts.f, spec_ExampleGoal.f, impl_ExampleGoal.f, laws_FnExactExampleGoal.f -/
theorem FnExactExampleGoal : laws_FnExactExampleGoal.Pure := by
  intro a _
  unfold laws_FnExactExampleGoal.f spec_ExampleGoal.f impl_ExampleGoal.f spec_l32Texts.f
  by_cases h1 : a = 1
  · subst h1; decide +kernel
  by_cases h2 : a = 2
  · subst h2; decide +kernel
  by_cases h3 : a = 3
  · subst h3; decide +kernel
  by_cases h4 : a = 4
  · subst h4; decide +kernel
  by_cases h5 : a = 5
  · subst h5; decide +kernel
  rw [if_neg h1, if_neg h2, if_neg h3, if_neg h4, if_neg h5, if_neg h1, if_neg h2, if_neg h3, if_neg h4, if_neg h5]
  decide +kernel

end Go.Proofs.Ytjfpbaknhaikmaa.Pure
