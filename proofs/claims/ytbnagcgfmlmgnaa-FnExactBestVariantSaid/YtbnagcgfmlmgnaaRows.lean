/-
  NARROWER THAN 'FOR EVERY INPUT', by the rows' own cells (each row's printed sentence says how): FnExactEqualBase: loops · FnExactBestVariant: loops · FnExactEqualSession: loops · FnExactSameFunction: loops.
  DERIVED. THE GIVEN ROWS OF THIS SEAT. 4 by the template 'for every input the law returns true; each argument reads behind the call as it read before'; 0 by the template 'total and deterministic' (their statements: YtbnagcgfmlmgnaaTotals.lean).
  GIVEN WITH THE SEED: the statements are not yours to turn. If you find one false, say at which input.
  Laid BY PROGRAM, IN A SANDBOX (cutbox-rows.mjs): the forced cells as the released guide's own fill.sh prints them over the translation 4d68053a56e3a428… (all of the seat's roots in one cut). By AI agents, Wed Nov 11 2026. No macro, syntax, notation, axiom, sorry.
-/
import Derived.Test.YtbnagcgfmlmgnaaChecked
import GoSem.Claim
import GoSem.ClaimJoined
import GoSem.ClaimMapViews
import Derived.JoinedTies
import Derived.KernelRfl
namespace Go.Proofs.Ytbnagcgfmlmgnaa
/- THE CELL 'sum', in the pinned program and in every row, IS THE sha256 OF THE DUMP (.gsa) THAT YtbnagcgfmlmgnaaProg.lean LOADS. Nothing in Lean hashes anything: it is a label: what it is worth is what the hold of that sum in a sandbox is worth. -/
noncomputable def Try.pinned : Pinned := { name := "ytbnagcgfmlmgnaa", sum := "4d68053a56e3a428d40aaa94fc344e7fdd1e25f88110c53063811a0bf0230d6d", checked := Try.checked }
namespace Rows
def none {H : Type} : Left H := { results := [], args := [] }

/-- 'laws.FnExactEqualBase': WHATEVER THE INPUT: true; the input reads as it did. -/
def fnExactEqualBaseSpec : ChangeSpec := { name := "fnExactEqualBase", fn := fun _ => fun
  | [d1, d2] => { results := [.lit (.bool true)], args := [d1, d2] }
  | _ => none }
def fnExactEqualBaseRow : OpenClaim := { program := "ytbnagcgfmlmgnaa", sum := "4d68053a56e3a428d40aaa94fc344e7fdd1e25f88110c53063811a0bf0230d6d", func := "loop.example/g00584/laws.FnExactEqualBase", spec := "fnExactEqualBase", unfollowed := true, recurses := true, loops := true, apart := false }
def FnExactEqualBaseSaid : Prop := fnExactEqualBaseRow.holds Try.pinned (OpenSpec.ofChange fnExactEqualBaseSpec)

/-- ITS FALSE NEIGHBOUR: 'it returns false'. Refute it at one input. -/
def fnExactEqualBaseWrong : ChangeSpec := { name := "fnExactEqualBase", fn := fun _ => fun
  | [d1, d2] => { results := [.lit (.bool false)], args := [d1, d2] }
  | _ => none }
def FnExactEqualBaseWrongFalsely : Prop := fnExactEqualBaseRow.holds Try.pinned (OpenSpec.ofChange fnExactEqualBaseWrong)

/-- 'laws.FnExactBestVariant': WHATEVER THE INPUT: true; the input reads as it did. -/
def fnExactBestVariantSpec : ChangeSpec := { name := "fnExactBestVariant", fn := fun _ => fun
  | [d] => { results := [.lit (.bool true)], args := [d] }
  | _ => none }
def fnExactBestVariantRow : OpenClaim := { program := "ytbnagcgfmlmgnaa", sum := "4d68053a56e3a428d40aaa94fc344e7fdd1e25f88110c53063811a0bf0230d6d", func := "loop.example/g00584/laws.FnExactBestVariant", spec := "fnExactBestVariant", recurses := true, loops := true, apart := false }
def FnExactBestVariantSaid : Prop := fnExactBestVariantRow.holds Try.pinned (OpenSpec.ofChange fnExactBestVariantSpec)

/-- ITS FALSE NEIGHBOUR: 'it returns false'. Refute it at one input. -/
def fnExactBestVariantWrong : ChangeSpec := { name := "fnExactBestVariant", fn := fun _ => fun
  | [d] => { results := [.lit (.bool false)], args := [d] }
  | _ => none }
def FnExactBestVariantWrongFalsely : Prop := fnExactBestVariantRow.holds Try.pinned (OpenSpec.ofChange fnExactBestVariantWrong)

/-- 'laws.FnExactEqualSession': WHATEVER THE INPUT: true; the input reads as it did. -/
def fnExactEqualSessionSpec : ChangeSpec := { name := "fnExactEqualSession", fn := fun _ => fun
  | [d1, d2] => { results := [.lit (.bool true)], args := [d1, d2] }
  | _ => none }
def fnExactEqualSessionRow : OpenClaim := { program := "ytbnagcgfmlmgnaa", sum := "4d68053a56e3a428d40aaa94fc344e7fdd1e25f88110c53063811a0bf0230d6d", func := "loop.example/g00584/laws.FnExactEqualSession", spec := "fnExactEqualSession", unfollowed := true, recurses := true, loops := true, apart := false }
def FnExactEqualSessionSaid : Prop := fnExactEqualSessionRow.holds Try.pinned (OpenSpec.ofChange fnExactEqualSessionSpec)

/-- ITS FALSE NEIGHBOUR: 'it returns false'. Refute it at one input. -/
def fnExactEqualSessionWrong : ChangeSpec := { name := "fnExactEqualSession", fn := fun _ => fun
  | [d1, d2] => { results := [.lit (.bool false)], args := [d1, d2] }
  | _ => none }
def FnExactEqualSessionWrongFalsely : Prop := fnExactEqualSessionRow.holds Try.pinned (OpenSpec.ofChange fnExactEqualSessionWrong)

/-- 'laws.FnExactSameFunction': WHATEVER THE INPUT: true; the input reads as it did. -/
def fnExactSameFunctionSpec : ChangeSpec := { name := "fnExactSameFunction", fn := fun _ => fun
  | [d1, d2, d3] => { results := [.lit (.bool true)], args := [d1, d2, d3] }
  | _ => none }
def fnExactSameFunctionRow : OpenClaim := { program := "ytbnagcgfmlmgnaa", sum := "4d68053a56e3a428d40aaa94fc344e7fdd1e25f88110c53063811a0bf0230d6d", func := "loop.example/g00584/laws.FnExactSameFunction", spec := "fnExactSameFunction", unfollowed := true, recurses := true, loops := true, apart := false }
def FnExactSameFunctionSaid : Prop := fnExactSameFunctionRow.holds Try.pinned (OpenSpec.ofChange fnExactSameFunctionSpec)

/-- ITS FALSE NEIGHBOUR: 'it returns false'. Refute it at one input. -/
def fnExactSameFunctionWrong : ChangeSpec := { name := "fnExactSameFunction", fn := fun _ => fun
  | [d1, d2, d3] => { results := [.lit (.bool false)], args := [d1, d2, d3] }
  | _ => none }
def FnExactSameFunctionWrongFalsely : Prop := fnExactSameFunctionRow.holds Try.pinned (OpenSpec.ofChange fnExactSameFunctionWrong)

/- THE SECOND FORM. 'bulk': how many values and letters a reading holds, each counted each time it is reached (what is shared counts as often as it is met; a slice's spare places count too). A statement '..UptoSaid' is the law's where the arguments, and the package variables that the reading takes, are together of bulk at most 1048576: NARROWER than '..Said'. Prove '..Said' where nothing that the law and all that it calls make is longer than what came in: it says more and counts as full. Else prove '..UptoSaid'. A law counts once. -/
mutual
def uptoBulk {H : Type} : DataW H → Nat
  | .lit (.string bytes) => bytes.length + 1
  | .lit _ => 1
  | .nil => 1
  | .ptr d => uptoBulk d + 1
  | .slice elems spare => uptoBulkAll elems + uptoBulkAll spare + 1
  | .agg parts => uptoBulkAll parts + 1
  | .iface _ d => uptoBulk d + 1
  | .map entries => uptoBulkEntries entries + 1
  | .held _ => 1
def uptoBulkAll {H : Type} : List (DataW H) → Nat
  | [] => 0
  | d :: r => uptoBulk d + uptoBulkAll r
def uptoBulkEntries {H : Type} : List (Lit × DataW H) → Nat
  | [] => 0
  | x :: r => uptoBulkEntry x + uptoBulkEntries r
def uptoBulkEntry {H : Type} : Lit × DataW H → Nat
  | (.string bytes, d) => bytes.length + uptoBulk d + 1
  | (_, d) => uptoBulk d + 1
 end
def uptoSmall : (H : Type) → List (DataW H) → Bool := fun _ ds => decide (uptoBulkAll ds ≤ 1048576)
def OpenSpec.upto (s : _root_.Go.ChangeSpec) : _root_.Go.OpenSpec := { _root_.Go.OpenSpec.ofChange s with cond := some uptoSmall }

/-- 'laws.FnExactEqualBase', WHERE WHAT IT READS IS OF BULK AT MOST 1048576: true; the input reads as it did. -/
def fnExactEqualBaseUptoRow : OpenClaim := { program := "ytbnagcgfmlmgnaa", sum := "4d68053a56e3a428d40aaa94fc344e7fdd1e25f88110c53063811a0bf0230d6d", func := "loop.example/g00584/laws.FnExactEqualBase", spec := "fnExactEqualBase", unfollowed := true, recurses := true, loops := true, apart := false, narrowed := true }
def FnExactEqualBaseUptoSaid : Prop := fnExactEqualBaseUptoRow.holds Try.pinned (OpenSpec.upto fnExactEqualBaseSpec)

/-- 'laws.FnExactBestVariant', WHERE WHAT IT READS IS OF BULK AT MOST 1048576: true; the input reads as it did. -/
def fnExactBestVariantUptoRow : OpenClaim := { program := "ytbnagcgfmlmgnaa", sum := "4d68053a56e3a428d40aaa94fc344e7fdd1e25f88110c53063811a0bf0230d6d", func := "loop.example/g00584/laws.FnExactBestVariant", spec := "fnExactBestVariant", recurses := true, loops := true, apart := false, narrowed := true }
def FnExactBestVariantUptoSaid : Prop := fnExactBestVariantUptoRow.holds Try.pinned (OpenSpec.upto fnExactBestVariantSpec)

/-- 'laws.FnExactEqualSession', WHERE WHAT IT READS IS OF BULK AT MOST 1048576: true; the input reads as it did. -/
def fnExactEqualSessionUptoRow : OpenClaim := { program := "ytbnagcgfmlmgnaa", sum := "4d68053a56e3a428d40aaa94fc344e7fdd1e25f88110c53063811a0bf0230d6d", func := "loop.example/g00584/laws.FnExactEqualSession", spec := "fnExactEqualSession", unfollowed := true, recurses := true, loops := true, apart := false, narrowed := true }
def FnExactEqualSessionUptoSaid : Prop := fnExactEqualSessionUptoRow.holds Try.pinned (OpenSpec.upto fnExactEqualSessionSpec)

/-- 'laws.FnExactSameFunction', WHERE WHAT IT READS IS OF BULK AT MOST 1048576: true; the input reads as it did. -/
def fnExactSameFunctionUptoRow : OpenClaim := { program := "ytbnagcgfmlmgnaa", sum := "4d68053a56e3a428d40aaa94fc344e7fdd1e25f88110c53063811a0bf0230d6d", func := "loop.example/g00584/laws.FnExactSameFunction", spec := "fnExactSameFunction", unfollowed := true, recurses := true, loops := true, apart := false, narrowed := true }
def FnExactSameFunctionUptoSaid : Prop := fnExactSameFunctionUptoRow.holds Try.pinned (OpenSpec.upto fnExactSameFunctionSpec)

end Rows
end Go.Proofs.Ytbnagcgfmlmgnaa
