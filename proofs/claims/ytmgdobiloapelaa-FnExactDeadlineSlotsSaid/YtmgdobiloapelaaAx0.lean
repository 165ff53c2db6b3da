/- Written for this claim by a program of this session's own (pp.py), out of the translation; hand-made contracts among them. -/
import Derived.Test.YtmgdobiloapelaaProg
import Derived.Below
import Derived.Deep.Draws
import Derived.Deep.AppendLies
import Derived.Maps.AppendAt
import Derived.OwnWalk
import Derived.Laws.BytesArg
import Derived.Laws.MakeOwn
import Derived.Laws.OwnMore
import Derived.Deep.OwnRows
import Derived.Tactics
import Derived.Lib.ConvBytes
import Derived.Laws.Slices
import Derived.WalkKit
import Derived.KernelRfl
import Derived.RowKit3
import Derived.Deep.LoopGhost
import Derived.Deep.QuietTactic
import Derived.BigQuiet
import Derived.WideLaws
import Derived.Deep.DeepCutAuto
import Derived.Deep.CutBlock
import Derived.Deep.RegionHeld3
import Derived.Laws.Rows
import Derived.Lib.AppendStr
import Derived.ArgAppend
import Derived.Laws.IdiomCopy
import Derived.OrdersHeld
import Derived.Laws.BitsLemmas
import Derived.RowKit
import Derived.Shelf.Abstract
import Derived.Deep.RegionLaw
import Derived.Laws.CopyOwn
import Derived.IntWalk
import Derived.Test.YtmgdobiloapelaaAwWords
import Derived.Test.YtmgdobiloapelaaAwLast
import Derived.Test.YtmgdobiloapelaaAwTab
import Derived.Test.YtmgdobiloapelaaAwFour
import Derived.Test.YtmgdobiloapelaaAwQPut
import Derived.Test.YtmgdobiloapelaaAwApart
import Derived.Test.YtmgdobiloapelaaAwArr
import Derived.Test.YtmgdobiloapelaaAwZeros
import Derived.Test.YtmgdobiloapelaaAwFoot
import Derived.Test.YtmgdobiloapelaaAwKept
import Derived.Test.YtmgdobiloapelaaAwShare
import Derived.Test.YtmgdobiloapelaaAwN
import Derived.Test.YtmgdobiloapelaaAwFootNe
import Derived.Test.YtmgdobiloapelaaAwAt
import Derived.Test.YtmgdobiloapelaaAwEqStruct
import Derived.Test.YtmgdobiloapelaaAwRepsOne
import Derived.Test.YtmgdobiloapelaaAwInv
import Derived.Test.YtmgdobiloapelaaAwInvWords
import Derived.Test.YtmgdobiloapelaaAwGuard
import Derived.Test.YtmgdobiloapelaaAwNEv
import Derived.Test.YtmgdobiloapelaaAwMore
namespace Go.Proofs.Ytmgdobiloapelaa.A
open Go.RowKit Go.Proofs.YtmgdobiloapelaaW.PrintWords Go.Proofs.YtmgdobiloapelaaW.PrintLast Go.Proofs.YtmgdobiloapelaaW.PrintMore
attribute [local go_sem] max2_int min2_int max_two min_two max_three min_three max_four min_four   -- for this text's walks alone
set_option linter.unusedVariables false
set_option linter.unusedSimpArgs false



def errW : Option Int → Value
  | none => .nilIface
  | some c => .iface 0 (.int .i64 c)
theorem errW_none : errW none = .nilIface := rfl
theorem errW_some (c : Int) : errW (some c) = .iface 0 (.int .i64 c) := rfl

theorem info2 : (Try.prog.info? 2).map (fun i => (i.zero, i.size, i.bytes)) = some (some (.int .i64 0), 1, 8) := by kernel_rfl
-- the values' own types

end Go.Proofs.Ytmgdobiloapelaa.A
