-- PRINTED BY print.sh 35421559b90ae4d0a3588c463048766b98c2df88dd9212a6774a882060cdf62d: not written by this session
import Derived.Test.YtjfpbaknhaikmaaProg
import Derived.Below
import Derived.Deep.Draws
import Derived.Deep.AppendLies
import Derived.Maps.AppendAt
import Derived.OwnWalk
import Derived.Laws.BytesArg
import Derived.Laws.MakeOwn
import Derived.Laws.OwnMore
import Derived.Deep.OwnRows
import Derived.Tactics
import Derived.Lib.ConvBytes
import Derived.Laws.Slices
import Derived.WalkKit
import Derived.KernelRfl
import Derived.RowKit3
import Derived.Deep.LoopGhost
import Derived.Deep.QuietTactic
import Derived.BigQuiet
import Derived.WideLaws
import Derived.Deep.DeepCutAuto
import Derived.Deep.CutBlock
import Derived.Deep.RegionHeld3
import Derived.Laws.Rows
import Derived.Lib.AppendStr
import Derived.ArgAppend
import Derived.Laws.IdiomCopy
import Derived.OrdersHeld
import Derived.Laws.BitsLemmas
import Derived.RowKit
import Derived.Test.YtjfpbaknhaikmaaWWords
import Derived.Test.YtjfpbaknhaikmaaWLast
import Derived.Test.YtjfpbaknhaikmaaWTab
import Derived.Test.YtjfpbaknhaikmaaWFour
import Derived.Test.YtjfpbaknhaikmaaWQPut
import Derived.Test.YtjfpbaknhaikmaaWApart
import Derived.Test.YtjfpbaknhaikmaaWArr
import Derived.Test.YtjfpbaknhaikmaaWZeros
import Derived.Test.YtjfpbaknhaikmaaWFoot
import Derived.Test.YtjfpbaknhaikmaaWKept
import Derived.Test.YtjfpbaknhaikmaaWShare
import Derived.Test.YtjfpbaknhaikmaaWN
import Derived.Test.YtjfpbaknhaikmaaWFootNe
import Derived.Test.YtjfpbaknhaikmaaWAt
import Derived.Test.YtjfpbaknhaikmaaWEqStruct
import Derived.Test.YtjfpbaknhaikmaaWRepsOne
import Derived.Test.YtjfpbaknhaikmaaWInv
import Derived.Test.YtjfpbaknhaikmaaWInvWords
import Derived.Test.YtjfpbaknhaikmaaWGuard
import Derived.Test.YtjfpbaknhaikmaaWNEv
import Derived.Test.YtjfpbaknhaikmaaWMore
namespace Go.Proofs.Ytjfpbaknhaikmaa.PFnExactPolicyName
open Go.RowKit Go.Proofs.YtjfpbaknhaikmaaW.PrintWords Go.Proofs.YtjfpbaknhaikmaaW.PrintLast Go.Proofs.YtjfpbaknhaikmaaW.PrintMore
attribute [local go_sem] max2_int min2_int max_two min_two max_three min_three max_four min_four   -- for this text's walks alone
set_option linter.unusedVariables false
set_option linter.unusedSimpArgs false



def errW : Option Int → Value
  | none => .nilIface
  | some c => .iface 0 (.int .i64 c)
theorem errW_none : errW none = .nilIface := rfl
theorem errW_some (c : Int) : errW (some c) = .iface 0 (.int .i64 c) := rfl

theorem info9 : (Try.prog.info? 9).map (fun i => (i.zero, i.size, i.bytes)) = some (some (.string ⟨#[]⟩), 1, 16) := by kernel_rfl
-- the values' own types

end Go.Proofs.Ytjfpbaknhaikmaa.PFnExactPolicyName
