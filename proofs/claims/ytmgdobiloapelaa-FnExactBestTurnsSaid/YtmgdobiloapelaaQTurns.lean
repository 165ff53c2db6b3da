/- Turns: whether they are such. -/
import Derived.Test.YtmgdobiloapelaaQWaits
set_option linter.unusedVariables false
set_option linter.unusedSimpArgs false
namespace Go.Proofs.Ytmgdobiloapelaa.Vf
open Go Go.V Go.RowKit

def turnW (p c : Int) : Bool := decide (-1 ≤ c ∧ c ≤ wrap64 (p - 1))
def turnsW (p : Int) (cs : List Int) : Bool := decide (1 ≤ cs.length ∧ cs.length ≤ 120) && cs.all (turnW p)

theorem turnsW_el {p : Int} {cs : List Int} (h1 : 1 ≤ p) (h2 : p ≤ 6) (h : turnsW p cs = true) : (1 ≤ cs.length ∧ cs.length ≤ 120) ∧ ∀ i : Nat, i < cs.length → -1 ≤ rd cs i ∧ rd cs i < p := by
  unfold turnsW at h
  rw [Bool.and_eq_true] at h
  refine ⟨of_decide_eq_true h.1, fun i hi => ?_⟩
  have := of_decide_eq_true (List.all_eq_true.1 h.2 _ (rd_mem hi))
  rw [w64 (x := p - 1) (by omega) (by omega)] at this
  omega

theorem contains_f {k : Nat} {l : List Int} (hk : 2097152 ≤ k) (hl : l.length ≤ 1048576) (a : Int) : ∃ b, slices_Contains_int64_int64.f k l a = some b ∧ (b = true ↔ ∃ x ∈ l, x = a) := by
  obtain ⟨j, h1, h2⟩ := idx_run (L := slices_Index_int64_int64.l0 k) (p := fun x => decide (a = x)) (l := l) (c := a)
    (fun n i hi => by
      simp only [slices_Index_int64_int64.l0, slices_Index_int64_int64.s0]
      rw [if_pos (by omega), if_pos (by omega), if_pos (by omega), w64n (by omega)]
      by_cases c : a = rd l i
      · rw [if_pos c, if_pos (decide_eq_true c)]
      · rw [if_neg c, if_neg (by simpa using c)])
    (fun n => by
      simp only [slices_Index_int64_int64.l0, slices_Index_int64_int64.s0]
      rw [if_neg (by omega)]) l.length 0 k (by omega) (by omega) (by omega)
  unfold slices_Contains_int64_int64.f slices_Index_int64_int64.f slices_Index_int64_int64.g
  rw [show slices_Index_int64_int64.l0 k k l a l.length 0 = some j from h1, Option.bind_some]
  refine ⟨_, rfl, ?_⟩
  rw [decide_eq_true_eq, h2, List.drop_zero]
  constructor
  · rintro ⟨x, hx, e⟩; exact ⟨x, hx, (of_decide_eq_true e).symm⟩
  · rintro ⟨x, hx, e⟩; exact ⟨x, hx, decide_eq_true e.symm⟩

end Go.Proofs.Ytmgdobiloapelaa.Vf
