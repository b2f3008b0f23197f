-- Written by the kit's print.py, called with a list of functions of this session's choice.
import Derived.Test.YtfachciaaghgnaaDoorProg
import Derived.Below
import Derived.Deep.Draws
import Derived.Deep.AppendLies
import Derived.Maps.AppendAt
import Derived.OwnWalk
import Derived.Laws.BytesArg
import Derived.Laws.MakeOwn
import Derived.Laws.OwnMore
import Derived.Deep.OwnRows
import Derived.Tactics
import Derived.Lib.ConvBytes
import Derived.Laws.Slices
import Derived.WalkKit
import Derived.KernelRfl
import Derived.RowKit3
import Derived.Deep.LoopGhost
import Derived.Deep.QuietTactic
import Derived.BigQuiet
import Derived.WideLaws
import Derived.Deep.DeepCutAuto
import Derived.Deep.CutBlock
import Derived.Deep.RegionHeld3
import Derived.Laws.Rows
import Derived.Lib.AppendStr
import Derived.ArgAppend
import Derived.Laws.IdiomCopy
import Derived.OrdersHeld
import Derived.Laws.BitsLemmas
import Derived.RowKit
import Derived.Test.YtfachciaaghgnaaDoorWWords
import Derived.Test.YtfachciaaghgnaaDoorWLast
import Derived.Test.YtfachciaaghgnaaDoorWTab
import Derived.Test.YtfachciaaghgnaaDoorWFour
import Derived.Test.YtfachciaaghgnaaDoorWQPut
import Derived.Test.YtfachciaaghgnaaDoorWApart
import Derived.Test.YtfachciaaghgnaaDoorWArr
import Derived.Test.YtfachciaaghgnaaDoorWZeros
import Derived.Test.YtfachciaaghgnaaDoorWFoot
import Derived.Test.YtfachciaaghgnaaDoorWKept
import Derived.Test.YtfachciaaghgnaaDoorWShare
import Derived.Test.YtfachciaaghgnaaDoorWN
import Derived.Test.YtfachciaaghgnaaDoorWFootNe
import Derived.Test.YtfachciaaghgnaaDoorWAt
import Derived.Test.YtfachciaaghgnaaDoorWEqStruct
import Derived.Test.YtfachciaaghgnaaDoorWRepsOne
import Derived.Test.YtfachciaaghgnaaDoorWInv
import Derived.Test.YtfachciaaghgnaaDoorWInvWords
import Derived.Test.YtfachciaaghgnaaDoorWGuard
import Derived.Test.YtfachciaaghgnaaDoorWNEv
import Derived.Test.YtfachciaaghgnaaDoorWMore
namespace Go.Proofs.YtfachciaaghgnaaDoor.PRef
open Go.RowKit Go.Proofs.YtfachciaaghgnaaDoorW.PrintWords Go.Proofs.YtfachciaaghgnaaDoorW.PrintLast Go.Proofs.YtfachciaaghgnaaDoorW.PrintMore
attribute [local go_sem] max2_int min2_int max_two min_two max_three min_three max_four min_four   -- for this text's walks alone
set_option linter.unusedVariables false
set_option linter.unusedSimpArgs false



def errW : Option Int → Value
  | none => .nilIface
  | some c => .iface 0 (.int .i64 c)
theorem errW_none : errW none = .nilIface := rfl
theorem errW_some (c : Int) : errW (some c) = .iface 0 (.int .i64 c) := rfl

theorem info3 : (Tryd.prog.info? 3).map (fun i => (i.zero, i.size, i.bytes)) = some (some (.int .i64 0), 1, 8) := by kernel_rfl
theorem info68 : (Tryd.prog.info? 68).map (fun i => (i.zero, i.size, i.bytes)) = some (some (.int .u32 0), 1, 4) := by kernel_rfl
-- the values' own types

end Go.Proofs.YtfachciaaghgnaaDoor.PRef
