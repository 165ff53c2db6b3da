/- Words of the kit's print, as its program wrote them for this claim: those that the claim names. -/
import Derived.Test.YtmgdobiloapelaaCwInv
import Derived.Test.YtmgdobiloapelaaCwFootNe
namespace Go.Proofs.YtmgdobiloapelaaW.PrintWords
open Go.RowKit
end Go.Proofs.YtmgdobiloapelaaW.PrintWords
namespace Go.Proofs.YtmgdobiloapelaaW.PrintLast
section
variable {ops : Array Oper} {a : Act} {o og : Oper} {g : Nat} {t : Tmp} {u : Bool}
end
end Go.Proofs.YtmgdobiloapelaaW.PrintLast
