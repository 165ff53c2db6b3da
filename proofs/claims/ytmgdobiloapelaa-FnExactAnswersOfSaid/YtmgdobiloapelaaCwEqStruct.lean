/- Words of the kit's print, as its program wrote them for this claim: those that the claim names. -/
import Derived.Test.YtmgdobiloapelaaCwWords
import Derived.Laws.StructEq
namespace Go.Proofs.YtmgdobiloapelaaW.PrintWords
open Go.RowKit
section
variable {P : Program} {d : Nat} {xs ys : Array Value} {f : Field} {fs : List Field} {a b : Value} {r s : Bool} {w : World}
end
end Go.Proofs.YtmgdobiloapelaaW.PrintWords
