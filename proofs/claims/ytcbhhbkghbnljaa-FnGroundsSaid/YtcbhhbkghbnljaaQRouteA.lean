/- Routes: what program and reference give. -/
import Derived.Test.YtcbhhbkghbnljaaQTurns
import Derived.Test.YtcbhhbkghbnljaaQ09r
set_option linter.unusedVariables false
set_option linter.unusedSimpArgs false
namespace Go.Proofs.Ytcbhhbkghbnljaa.Vf
open Go Go.V Go.RowKit

/-- The slot behind one, round the turns. -/
def sc (n i : Nat) : Nat := (i + 1) % n
theorem sc_lt {n i : Nat} (h : 1 ≤ n) : sc n i < n := Nat.mod_lt _ h
theorem sc_eq {n i : Nat} (h : i < n) : sc n i = if i + 1 < n then i + 1 else 0 := by
  unfold sc
  by_cases c : i + 1 < n
  · rw [if_pos c, Nat.mod_eq_of_lt c]
  · rw [if_neg c, show i + 1 = n by omega, Nat.mod_self]
theorem sc_mod (n i : Nat) : Int.tmod ((i + 1 : Nat) : Int) (n : Int) = ((sc n i : Nat) : Int) := by
  rw [Int.tmod_eq_emod_of_nonneg (by omega)]
  exact (Int.natCast_emod _ _).symm

noncomputable def routeB (r : Int) (cs : List Int) (i : Nat) : Bool := decide (0 ≤ rd cs i) && (decide (0 ≤ rd cs (sc cs.length i : Nat)) && nearV r (rd cs i) (rd cs (sc cs.length i : Nat)))
noncomputable def routeF (r : Int) (cs : List Int) : Nat → Nat → Bool
  | _, 0 => true
  | i, d + 1 => routeB r cs i && routeF r cs (i + 1) d
theorem routeF_iff {r : Int} {cs : List Int} : ∀ {d i : Nat}, routeF r cs i d = true ↔ ∀ t : Nat, i ≤ t → t < i + d → routeB r cs t = true
  | 0, i => by simp only [routeF, true_iff]; intro t h1 h2; omega
  | d + 1, i => by
    simp only [routeF, Bool.and_eq_true]
    rw [routeF_iff (d := d)]
    constructor
    · rintro ⟨h1, h2⟩ t h3 h4
      by_cases e : t = i
      · rw [e]; exact h1
      · exact h2 t (by omega) (by omega)
    · intro h
      exact ⟨h i (by omega) (by omega), fun t h1 h2 => h t (by omega) (by omega)⟩

noncomputable def isRouteR (p r : Int) (cs : List Int) : Bool × Int := if isGr p r = true then (if turnsW p cs = true then (routeF r cs 0 cs.length, 0) else (false, 2)) else (false, 1)

noncomputable def routeServesR (p r : Int) (G cs : List Int) : Bool × Int := if isGr p r = true then (if isT G = true then (if (G.length : Int) = p then (if turnsW p cs = true then (routeF r cs 0 cs.length && servB G cs 0 G.length, 0) else (false, 2)) else (false, 2)) else (false, 1)) else (false, 1)

end Go.Proofs.Ytcbhhbkghbnljaa.Vf
