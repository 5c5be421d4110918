-- Written for this claim by a program of this session (a print with floats).
import Derived.Test.YtlfgkibfhhifmaaDoorProg
import Derived.Test.YtlfgkibfhhifmaaDoorRd8
import Derived.Below
import Derived.Deep.Draws
import Derived.Deep.AppendLies
import Derived.Maps.AppendAt
import Derived.OwnWalk
import Derived.Laws.BytesArg
import Derived.Laws.MakeOwn
import Derived.Laws.OwnMore
import Derived.Deep.OwnRows
import Derived.Tactics
import Derived.Lib.ConvBytes
import Derived.Laws.Slices
import Derived.WalkKit
import Derived.KernelRfl
import Derived.RowKit3
import Derived.Deep.LoopGhost
import Derived.Deep.QuietTactic
import Derived.BigQuiet
import Derived.WideLaws
import Derived.Deep.DeepCutAuto
import Derived.Deep.CutBlock
import Derived.Deep.RegionHeld3
import Derived.Laws.Rows
import Derived.Lib.AppendStr
import Derived.ArgAppend
import Derived.Laws.IdiomCopy
import Derived.OrdersHeld
import Derived.Laws.BitsLemmas
import Derived.RowKit
import Derived.Test.YtlfgkibfhhifmaaDoorWWords
import Derived.Test.YtlfgkibfhhifmaaDoorWLast
import Derived.Test.YtlfgkibfhhifmaaDoorWTab
import Derived.Test.YtlfgkibfhhifmaaDoorWFour
import Derived.Test.YtlfgkibfhhifmaaDoorWQPut
import Derived.Test.YtlfgkibfhhifmaaDoorWApart
import Derived.Test.YtlfgkibfhhifmaaDoorWArr
import Derived.Test.YtlfgkibfhhifmaaDoorWZeros
import Derived.Test.YtlfgkibfhhifmaaDoorWFoot
import Derived.Test.YtlfgkibfhhifmaaDoorWKept
import Derived.Test.YtlfgkibfhhifmaaDoorWShare
import Derived.Test.YtlfgkibfhhifmaaDoorWN
import Derived.Test.YtlfgkibfhhifmaaDoorWFootNe
import Derived.Test.YtlfgkibfhhifmaaDoorWAt
import Derived.Test.YtlfgkibfhhifmaaDoorWEqStruct
import Derived.Test.YtlfgkibfhhifmaaDoorWRepsOne
import Derived.Test.YtlfgkibfhhifmaaDoorWInv
import Derived.Test.YtlfgkibfhhifmaaDoorWInvWords
import Derived.Test.YtlfgkibfhhifmaaDoorWGuard
import Derived.Test.YtlfgkibfhhifmaaDoorWNEv
import Derived.Test.YtlfgkibfhhifmaaDoorWMore
namespace Go.Proofs.YtlfgkibfhhifmaaDoor.PNrd
attribute [local go_sem] f32bits_run f32from_run run_store_float run_store_complex
open Go.RowKit Go.Proofs.YtlfgkibfhhifmaaDoorW.PrintWords Go.Proofs.YtlfgkibfhhifmaaDoorW.PrintLast Go.Proofs.YtlfgkibfhhifmaaDoorW.PrintMore
attribute [local go_sem] max2_int min2_int max_two min_two max_three min_three max_four min_four   -- for this text's walks alone
set_option linter.unusedVariables false
set_option linter.unusedSimpArgs false



def errW : Option Int → Value
  | none => .nilIface
  | some c => .iface 0 (.int .i64 c)
theorem errW_none : errW none = .nilIface := rfl
theorem errW_some (c : Int) : errW (some c) = .iface 0 (.int .i64 c) := rfl

theorem info32 : (Tryd.prog.info? 32).map (fun i => (i.zero, i.size, i.bytes)) = some (some (.float .f32 0), 1, 4) := by kernel_rfl
-- the values' own types

end Go.Proofs.YtlfgkibfhhifmaaDoor.PNrd
