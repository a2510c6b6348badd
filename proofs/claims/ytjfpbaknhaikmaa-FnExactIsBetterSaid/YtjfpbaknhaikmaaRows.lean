/-
  NARROWER THAN 'FOR EVERY INPUT', by the rows' own cells (each row's printed sentence says how): FnExactIsBetter: loops.
  DERIVED. THE GIVEN ROWS OF THIS SEAT. 5 by the template 'for every input the law returns true; each argument reads behind the call as it read before'; 0 by the template 'total and deterministic' (their statements: YtjfpbaknhaikmaaTotals.lean).
  GIVEN WITH THE SEED: the statements are not yours to turn. If you find one false, say at which input.
  Laid BY PROGRAM, IN A SANDBOX (cutbox-rows.mjs): the forced cells as the released guide's own fill.sh prints them over the translation f21756b16813f6ee… (all of the seat's roots in one cut). By AI agents, Wed Nov 11 2026. No macro, syntax, notation, axiom, sorry.
-/
import Derived.Test.YtjfpbaknhaikmaaChecked
import GoSem.Claim
import GoSem.ClaimJoined
import GoSem.ClaimMapViews
import Derived.JoinedTies
import Derived.KernelRfl
namespace Go.Proofs.Ytjfpbaknhaikmaa
/- THE CELL 'sum', in the pinned program and in every row, IS THE sha256 OF THE DUMP (.gsa) THAT YtjfpbaknhaikmaaProg.lean LOADS. Nothing in Lean hashes anything: it is a label: what it is worth is what the hold of that sum in a sandbox is worth. -/
noncomputable def Try.pinned : Pinned := { name := "ytjfpbaknhaikmaa", sum := "f21756b16813f6eec37a37aa89bad3a4d7e5e6f523668490543570ff8acb07c3", checked := Try.checked }
namespace Rows
def none {H : Type} : Left H := { results := [], args := [] }

/-- 'laws.FnExactPolicyName': WHATEVER THE INPUT: true; the input reads as it did. -/
def fnExactPolicyNameSpec : ChangeSpec := { name := "fnExactPolicyName", fn := fun _ => fun
  | [d] => { results := [.lit (.bool true)], args := [d] }
  | _ => none }
def fnExactPolicyNameRow : OpenClaim := { program := "ytjfpbaknhaikmaa", sum := "f21756b16813f6eec37a37aa89bad3a4d7e5e6f523668490543570ff8acb07c3", func := "loop.example/g00584/laws.FnExactPolicyName", spec := "fnExactPolicyName", apart := false }
def FnExactPolicyNameSaid : Prop := fnExactPolicyNameRow.holds Try.pinned (OpenSpec.ofChange fnExactPolicyNameSpec)

/-- ITS FALSE NEIGHBOUR: 'it returns false'. Refute it at one input. -/
def fnExactPolicyNameWrong : ChangeSpec := { name := "fnExactPolicyName", fn := fun _ => fun
  | [d] => { results := [.lit (.bool false)], args := [d] }
  | _ => none }
def FnExactPolicyNameWrongFalsely : Prop := fnExactPolicyNameRow.holds Try.pinned (OpenSpec.ofChange fnExactPolicyNameWrong)

/-- 'laws.FnExactExampleGoal': WHATEVER THE INPUT: true; the input reads as it did. -/
def fnExactExampleGoalSpec : ChangeSpec := { name := "fnExactExampleGoal", fn := fun _ => fun
  | [d] => { results := [.lit (.bool true)], args := [d] }
  | _ => none }
def fnExactExampleGoalRow : OpenClaim := { program := "ytjfpbaknhaikmaa", sum := "f21756b16813f6eec37a37aa89bad3a4d7e5e6f523668490543570ff8acb07c3", func := "loop.example/g00584/laws.FnExactExampleGoal", spec := "fnExactExampleGoal", apart := false }
def FnExactExampleGoalSaid : Prop := fnExactExampleGoalRow.holds Try.pinned (OpenSpec.ofChange fnExactExampleGoalSpec)

/-- ITS FALSE NEIGHBOUR: 'it returns false'. Refute it at one input. -/
def fnExactExampleGoalWrong : ChangeSpec := { name := "fnExactExampleGoal", fn := fun _ => fun
  | [d] => { results := [.lit (.bool false)], args := [d] }
  | _ => none }
def FnExactExampleGoalWrongFalsely : Prop := fnExactExampleGoalRow.holds Try.pinned (OpenSpec.ofChange fnExactExampleGoalWrong)

/-- 'laws.FnExactExampleText': WHATEVER THE INPUT: true; the input reads as it did. -/
def fnExactExampleTextSpec : ChangeSpec := { name := "fnExactExampleText", fn := fun _ => fun
  | [d] => { results := [.lit (.bool true)], args := [d] }
  | _ => none }
def fnExactExampleTextRow : OpenClaim := { program := "ytjfpbaknhaikmaa", sum := "f21756b16813f6eec37a37aa89bad3a4d7e5e6f523668490543570ff8acb07c3", func := "loop.example/g00584/laws.FnExactExampleText", spec := "fnExactExampleText", apart := false }
def FnExactExampleTextSaid : Prop := fnExactExampleTextRow.holds Try.pinned (OpenSpec.ofChange fnExactExampleTextSpec)

/-- ITS FALSE NEIGHBOUR: 'it returns false'. Refute it at one input. -/
def fnExactExampleTextWrong : ChangeSpec := { name := "fnExactExampleText", fn := fun _ => fun
  | [d] => { results := [.lit (.bool false)], args := [d] }
  | _ => none }
def FnExactExampleTextWrongFalsely : Prop := fnExactExampleTextRow.holds Try.pinned (OpenSpec.ofChange fnExactExampleTextWrong)

/-- 'laws.FnExactCountActions': WHATEVER THE INPUT: true; the input reads as it did. -/
def fnExactCountActionsSpec : ChangeSpec := { name := "fnExactCountActions", fn := fun _ => fun
  | [d1, d2] => { results := [.lit (.bool true)], args := [d1, d2] }
  | _ => none }
def fnExactCountActionsRow : OpenClaim := { program := "ytjfpbaknhaikmaa", sum := "f21756b16813f6eec37a37aa89bad3a4d7e5e6f523668490543570ff8acb07c3", func := "loop.example/g00584/laws.FnExactCountActions", spec := "fnExactCountActions", apart := false }
def FnExactCountActionsSaid : Prop := fnExactCountActionsRow.holds Try.pinned (OpenSpec.ofChange fnExactCountActionsSpec)

/-- ITS FALSE NEIGHBOUR: 'it returns false'. Refute it at one input. -/
def fnExactCountActionsWrong : ChangeSpec := { name := "fnExactCountActions", fn := fun _ => fun
  | [d1, d2] => { results := [.lit (.bool false)], args := [d1, d2] }
  | _ => none }
def FnExactCountActionsWrongFalsely : Prop := fnExactCountActionsRow.holds Try.pinned (OpenSpec.ofChange fnExactCountActionsWrong)

/-- 'laws.FnExactIsBetter': WHATEVER THE INPUT: true; the input reads as it did. -/
def fnExactIsBetterSpec : ChangeSpec := { name := "fnExactIsBetter", fn := fun _ => fun
  | [d1, d2] => { results := [.lit (.bool true)], args := [d1, d2] }
  | _ => none }
def fnExactIsBetterRow : OpenClaim := { program := "ytjfpbaknhaikmaa", sum := "f21756b16813f6eec37a37aa89bad3a4d7e5e6f523668490543570ff8acb07c3", func := "loop.example/g00584/laws.FnExactIsBetter", spec := "fnExactIsBetter", recurses := true, loops := true, apart := false }
def FnExactIsBetterSaid : Prop := fnExactIsBetterRow.holds Try.pinned (OpenSpec.ofChange fnExactIsBetterSpec)

/-- ITS FALSE NEIGHBOUR: 'it returns false'. Refute it at one input. -/
def fnExactIsBetterWrong : ChangeSpec := { name := "fnExactIsBetter", fn := fun _ => fun
  | [d1, d2] => { results := [.lit (.bool false)], args := [d1, d2] }
  | _ => none }
def FnExactIsBetterWrongFalsely : Prop := fnExactIsBetterRow.holds Try.pinned (OpenSpec.ofChange fnExactIsBetterWrong)

/- THE SECOND FORM. 'bulk': how many values and letters a reading holds, each counted each time it is reached (what is shared counts as often as it is met; a slice's spare places count too). A statement '..UptoSaid' is the law's where the arguments, and the package variables that the reading takes, are together of bulk at most 1048576: NARROWER than '..Said'. Prove '..Said' where nothing that the law and all that it calls make is longer than what came in: it says more and counts as full. Else prove '..UptoSaid'. A law counts once. -/
mutual
def uptoBulk {H : Type} : DataW H → Nat
  | .lit (.string bytes) => bytes.length + 1
  | .lit _ => 1
  | .nil => 1
  | .ptr d => uptoBulk d + 1
  | .slice elems spare => uptoBulkAll elems + uptoBulkAll spare + 1
  | .agg parts => uptoBulkAll parts + 1
  | .iface _ d => uptoBulk d + 1
  | .map entries => uptoBulkEntries entries + 1
  | .held _ => 1
def uptoBulkAll {H : Type} : List (DataW H) → Nat
  | [] => 0
  | d :: r => uptoBulk d + uptoBulkAll r
def uptoBulkEntries {H : Type} : List (Lit × DataW H) → Nat
  | [] => 0
  | x :: r => uptoBulkEntry x + uptoBulkEntries r
def uptoBulkEntry {H : Type} : Lit × DataW H → Nat
  | (.string bytes, d) => bytes.length + uptoBulk d + 1
  | (_, d) => uptoBulk d + 1
 end
def uptoSmall : (H : Type) → List (DataW H) → Bool := fun _ ds => decide (uptoBulkAll ds ≤ 1048576)
def OpenSpec.upto (s : _root_.Go.ChangeSpec) : _root_.Go.OpenSpec := { _root_.Go.OpenSpec.ofChange s with cond := some uptoSmall }

/-- 'laws.FnExactPolicyName', WHERE WHAT IT READS IS OF BULK AT MOST 1048576: true; the input reads as it did. -/
def fnExactPolicyNameUptoRow : OpenClaim := { program := "ytjfpbaknhaikmaa", sum := "f21756b16813f6eec37a37aa89bad3a4d7e5e6f523668490543570ff8acb07c3", func := "loop.example/g00584/laws.FnExactPolicyName", spec := "fnExactPolicyName", apart := false, narrowed := true }
def FnExactPolicyNameUptoSaid : Prop := fnExactPolicyNameUptoRow.holds Try.pinned (OpenSpec.upto fnExactPolicyNameSpec)

/-- 'laws.FnExactExampleGoal', WHERE WHAT IT READS IS OF BULK AT MOST 1048576: true; the input reads as it did. -/
def fnExactExampleGoalUptoRow : OpenClaim := { program := "ytjfpbaknhaikmaa", sum := "f21756b16813f6eec37a37aa89bad3a4d7e5e6f523668490543570ff8acb07c3", func := "loop.example/g00584/laws.FnExactExampleGoal", spec := "fnExactExampleGoal", apart := false, narrowed := true }
def FnExactExampleGoalUptoSaid : Prop := fnExactExampleGoalUptoRow.holds Try.pinned (OpenSpec.upto fnExactExampleGoalSpec)

/-- 'laws.FnExactExampleText', WHERE WHAT IT READS IS OF BULK AT MOST 1048576: true; the input reads as it did. -/
def fnExactExampleTextUptoRow : OpenClaim := { program := "ytjfpbaknhaikmaa", sum := "f21756b16813f6eec37a37aa89bad3a4d7e5e6f523668490543570ff8acb07c3", func := "loop.example/g00584/laws.FnExactExampleText", spec := "fnExactExampleText", apart := false, narrowed := true }
def FnExactExampleTextUptoSaid : Prop := fnExactExampleTextUptoRow.holds Try.pinned (OpenSpec.upto fnExactExampleTextSpec)

/-- 'laws.FnExactCountActions', WHERE WHAT IT READS IS OF BULK AT MOST 1048576: true; the input reads as it did. -/
def fnExactCountActionsUptoRow : OpenClaim := { program := "ytjfpbaknhaikmaa", sum := "f21756b16813f6eec37a37aa89bad3a4d7e5e6f523668490543570ff8acb07c3", func := "loop.example/g00584/laws.FnExactCountActions", spec := "fnExactCountActions", apart := false, narrowed := true }
def FnExactCountActionsUptoSaid : Prop := fnExactCountActionsUptoRow.holds Try.pinned (OpenSpec.upto fnExactCountActionsSpec)

/-- 'laws.FnExactIsBetter', WHERE WHAT IT READS IS OF BULK AT MOST 1048576: true; the input reads as it did. -/
def fnExactIsBetterUptoRow : OpenClaim := { program := "ytjfpbaknhaikmaa", sum := "f21756b16813f6eec37a37aa89bad3a4d7e5e6f523668490543570ff8acb07c3", func := "loop.example/g00584/laws.FnExactIsBetter", spec := "fnExactIsBetter", recurses := true, loops := true, apart := false, narrowed := true }
def FnExactIsBetterUptoSaid : Prop := fnExactIsBetterUptoRow.holds Try.pinned (OpenSpec.upto fnExactIsBetterSpec)

end Rows
end Go.Proofs.Ytjfpbaknhaikmaa
