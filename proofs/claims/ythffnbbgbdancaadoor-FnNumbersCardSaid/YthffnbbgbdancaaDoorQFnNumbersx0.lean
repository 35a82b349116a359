/- For each Go function that the law reaches: a plain Lean function, and the proof that the call comes to just its answer. Written for this claim by a program of this session. -/
import Derived.Test.YthffnbbgbdancaaDoorProg
import Derived.Below
import Derived.Deep.Draws
import Derived.Deep.AppendLies
import Derived.Maps.AppendAt
import Derived.OwnWalk
import Derived.Laws.BytesArg
import Derived.Laws.MakeOwn
import Derived.Laws.OwnMore
import Derived.Deep.OwnRows
import Derived.Tactics
import Derived.Lib.ConvBytes
import Derived.Laws.Slices
import Derived.WalkKit
import Derived.KernelRfl
import Derived.RowKit3
import Derived.Deep.LoopGhost
import Derived.Deep.QuietTactic
import Derived.BigQuiet
import Derived.WideLaws
import Derived.Deep.DeepCutAuto
import Derived.Deep.CutBlock
import Derived.Deep.RegionHeld3
import Derived.Laws.Rows
import Derived.Lib.AppendStr
import Derived.ArgAppend
import Derived.Laws.IdiomCopy
import Derived.OrdersHeld
import Derived.Laws.BitsLemmas
import Derived.RowKit
import Derived.Test.YthffnbbgbdancaaDoorGGlob
import Derived.Test.YthffnbbgbdancaaDoorGIdx
import Derived.Lib.Bytealg
import Derived.Test.YthffnbbgbdancaaDoorWWords
import Derived.Test.YthffnbbgbdancaaDoorWLast
import Derived.Test.YthffnbbgbdancaaDoorWTab
import Derived.Test.YthffnbbgbdancaaDoorWFour
import Derived.Test.YthffnbbgbdancaaDoorWQPut
import Derived.Test.YthffnbbgbdancaaDoorWApart
import Derived.Test.YthffnbbgbdancaaDoorWArr
import Derived.Test.YthffnbbgbdancaaDoorWZeros
import Derived.Test.YthffnbbgbdancaaDoorWFoot
import Derived.Test.YthffnbbgbdancaaDoorWKept
import Derived.Test.YthffnbbgbdancaaDoorWShare
import Derived.Test.YthffnbbgbdancaaDoorWN
import Derived.Test.YthffnbbgbdancaaDoorWFootNe
import Derived.Test.YthffnbbgbdancaaDoorWAt
import Derived.Test.YthffnbbgbdancaaDoorWEqStruct
import Derived.Test.YthffnbbgbdancaaDoorWRepsOne
import Derived.Test.YthffnbbgbdancaaDoorWInv
import Derived.Test.YthffnbbgbdancaaDoorWInvWords
import Derived.Test.YthffnbbgbdancaaDoorWGuard
import Derived.Test.YthffnbbgbdancaaDoorWNEv
import Derived.Test.YthffnbbgbdancaaDoorWMore
namespace Go.Proofs.YthffnbbgbdancaaDoor.QFnNumbers
open Go.RowKit Go.Proofs.YthffnbbgbdancaaDoorW.PrintWords Go.Proofs.YthffnbbgbdancaaDoorW.PrintLast Go.Proofs.YthffnbbgbdancaaDoorW.PrintMore
attribute [local go_sem] max2_int min2_int max_two min_two max_three min_three max_four min_four   -- for this text's walks alone
set_option linter.unusedVariables false
set_option linter.unusedSimpArgs false



def errW : Option Int → Value
  | none => .nilIface
  | some c => .iface 0 (.int .i64 c)
theorem errW_none : errW none = .nilIface := rfl
theorem errW_some (c : Int) : errW (some c) = .iface 0 (.int .i64 c) := rfl

theorem info3 : (Tryd.prog.info? 3).map (fun i => (i.zero, i.size, i.bytes)) = some (some (.int .i64 0), 1, 8) := by kernel_rfl
theorem info5 : (Tryd.prog.info? 5).map (fun i => (i.zero, i.size, i.bytes)) = some (some (.int .u8 0), 1, 1) := by kernel_rfl
-- the values' own types

end Go.Proofs.YthffnbbgbdancaaDoor.QFnNumbers
