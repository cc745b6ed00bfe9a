/- Functions of the program as plain Lean functions, each with the proof that its call comes to the same answer, and the row of the statement: written by a program of this session out of the translation. No condition beyond those in the texts. -/
import Derived.Test.YthiiigbifimckaaProg
import Derived.Below
import Derived.Deep.Draws
import Derived.Deep.AppendLies
import Derived.Maps.AppendAt
import Derived.OwnWalk
import Derived.Laws.BytesArg
import Derived.Laws.MakeOwn
import Derived.Laws.OwnMore
import Derived.Deep.OwnRows
import Derived.Tactics
import Derived.Lib.ConvBytes
import Derived.Laws.Slices
import Derived.WalkKit
import Derived.KernelRfl
import Derived.RowKit3
import Derived.Deep.LoopGhost
import Derived.Deep.QuietTactic
import Derived.BigQuiet
import Derived.WideLaws
import Derived.Deep.DeepCutAuto
import Derived.Deep.CutBlock
import Derived.Deep.RegionHeld3
import Derived.Laws.Rows
import Derived.Lib.AppendStr
import Derived.ArgAppend
import Derived.Laws.IdiomCopy
import Derived.OrdersHeld
import Derived.Laws.BitsLemmas
import Derived.RowKit
import Derived.Laws.Runes
import Derived.Laws.RangeAny
import Derived.Laws.RangeString
import Derived.Lib.Hide
import Derived.Outline
import Derived.Test.YthiiigbifimckaaHw
import Derived.Test.YthiiigbifimckaaBld
import Derived.Test.YthiiigbifimckaaShelf
import Derived.Test.YthiiigbifimckaaWWords
import Derived.Test.YthiiigbifimckaaWLast
import Derived.Test.YthiiigbifimckaaWTab
import Derived.Test.YthiiigbifimckaaWFour
import Derived.Test.YthiiigbifimckaaWQPut
import Derived.Test.YthiiigbifimckaaWApart
import Derived.Test.YthiiigbifimckaaWArr
import Derived.Test.YthiiigbifimckaaWZeros
import Derived.Test.YthiiigbifimckaaWFoot
import Derived.Test.YthiiigbifimckaaWKept
import Derived.Test.YthiiigbifimckaaWShare
import Derived.Test.YthiiigbifimckaaWN
import Derived.Test.YthiiigbifimckaaWFootNe
import Derived.Test.YthiiigbifimckaaWAt
import Derived.Test.YthiiigbifimckaaWEqStruct
import Derived.Test.YthiiigbifimckaaWRepsOne
import Derived.Test.YthiiigbifimckaaWInv
import Derived.Test.YthiiigbifimckaaWInvWords
import Derived.Test.YthiiigbifimckaaWGuard
import Derived.Test.YthiiigbifimckaaWNEv
import Derived.Test.YthiiigbifimckaaWMore
namespace Go.Proofs.Ythiiigbifimckaa.Pt
open Go.RowKit Go.Proofs.YthiiigbifimckaaW.PrintWords Go.Proofs.YthiiigbifimckaaW.PrintLast Go.Proofs.YthiiigbifimckaaW.PrintMore
attribute [local go_sem] max2_int min2_int max_two min_two max_three min_three max_four min_four   -- for this text's walks alone
set_option linter.unusedVariables false
set_option linter.unusedSimpArgs false



def errW : Option Int → Value
  | none => .nilIface
  | some c => .iface 0 (.int .i64 c)
theorem errW_none : errW none = .nilIface := rfl
theorem errW_some (c : Int) : errW (some c) = .iface 0 (.int .i64 c) := rfl

theorem info5 : (Try.prog.info? 5).map (fun i => (i.zero, i.size, i.bytes)) = some (some (.int .u8 0), 1, 1) := by kernel_rfl
theorem info21 : (Try.prog.info? 21).map (fun i => (i.zero, i.size, i.bytes)) = some (some (.int .i32 0), 1, 4) := by kernel_rfl
-- the values' own types

end Go.Proofs.Ythiiigbifimckaa.Pt
