/- How many choices keep. -/
import Derived.Test.YtcbhhbkghbnljaaQ02m
set_option linter.unusedVariables false
set_option linter.unusedSimpArgs false
namespace Go.Proofs.Ytcbhhbkghbnljaa.Vf
open Go Go.V Go.RowKit

def chB (G : List Int) (c : Int) : Bool := decide (-1 ≤ c ∧ c < G.length)
def chsOK (G l : List Int) : Bool := l.all (chB G) && decide ((l.length : Int) ≤ 120)

/-! ### How many are kept -/

def kept (G : List Int) : List Int → Nat → List Int → Int
  | [], i, _ => i
  | c :: l, i, S => match step G S c with
    | some T => if (lasting G).getD (num G T).toNat false = true then kept G l (i + 1) T else i
    | none => i

def keptR (G S l : List Int) : Int × Int := if isT G = true then (if stB G S = true ∧ chsOK G l = true then (if 4000 < cnt G then (0, 3) else if (lasting G).getD (num G S).toNat false = true then (kept G l 0 S, 0) else (0, 5)) else (0, 2)) else (0, 1)

end Go.Proofs.Ytcbhhbkghbnljaa.Vf
