/- Words of the kit's print, as its program wrote them for this claim: those that the claim names. -/
import Derived.Test.YtmgdobiloapelaaCwN
namespace Go.Proofs.YtmgdobiloapelaaW.PrintWords
open Go.RowKit
namespace Kd
section
variable {α : Type} {d : Kd α} {W : World} {g n : Nat} {S ok : Nat → Prop} {A : Option Addr} {ad : Addr} {xs : List α}
end
end Kd
end Go.Proofs.YtmgdobiloapelaaW.PrintWords
