/- Words of the kit's print, as its program wrote them for this claim: those that the claim names. -/
import Derived.Test.YtmgdobiloapelaaCwTab
namespace Go.Proofs.YtmgdobiloapelaaW.PrintLast
section
variable {P : Program} {ops : Array Oper} {Q : Exit → Act → World → Prop} {md : Region.Mode} {S : World → Prop} {ds : List Nat} {T : Bool × List (List Nat × List Nat)}
end
end Go.Proofs.YtmgdobiloapelaaW.PrintLast
