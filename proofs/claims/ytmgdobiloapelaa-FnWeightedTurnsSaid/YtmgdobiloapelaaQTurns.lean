/- Turns: whether they are such. -/
import Derived.Test.YtmgdobiloapelaaQWaits
set_option linter.unusedVariables false
set_option linter.unusedSimpArgs false
namespace Go.Proofs.Ytmgdobiloapelaa.Vf
open Go Go.V Go.RowKit

def turnW (p c : Int) : Bool := decide (-1 ≤ c ∧ c ≤ wrap64 (p - 1))
def turnsW (p : Int) (cs : List Int) : Bool := decide (1 ≤ cs.length ∧ cs.length ≤ 120) && cs.all (turnW p)

theorem areTurnsW {k : Nat} {l : List Int} (hk : 2097152 ≤ k) (hl : l.length ≤ 1048576) (m : Int) : impl_areTurns.f k l m = some (turnsW m l) := by
  have key : impl_areAll_int64_impl_areTurns_1.f k l m = some (l.all (turnW m)) := by
    obtain ⟨j, h1, h2⟩ := idx_run (L := slices_IndexFunc_int64_int64_impl_areAll_int64_1_impl_areTurns_1.l0 k) (p := fun x => !turnW m x) (l := l) (c := m)
      (fun n i hi => by
        simp only [slices_IndexFunc_int64_int64_impl_areAll_int64_1_impl_areTurns_1.l0, slices_IndexFunc_int64_int64_impl_areAll_int64_1_impl_areTurns_1.s0]
        rw [if_pos (by omega), if_pos (by omega), if_pos (by omega)]
        simp only [impl_areAll_int64_1_impl_areTurns_1.f, impl_areTurns_1.f, within_f, Option.bind_some, w64n (show i ≤ 9223372036854775806 by omega)]
        unfold turnW
        cases decide (-1 ≤ rd l i ∧ rd l i ≤ wrap64 (m - 1)) <;> simp)
      (fun n => by
        simp only [slices_IndexFunc_int64_int64_impl_areAll_int64_1_impl_areTurns_1.l0, slices_IndexFunc_int64_int64_impl_areAll_int64_1_impl_areTurns_1.s0]
        rw [if_neg (by omega)]) l.length 0 k (by omega) (by omega) (by omega)
    unfold impl_areAll_int64_impl_areTurns_1.f slices_ContainsFunc_int64_int64_impl_areAll_int64_1_impl_areTurns_1.f slices_IndexFunc_int64_int64_impl_areAll_int64_1_impl_areTurns_1.f slices_IndexFunc_int64_int64_impl_areAll_int64_1_impl_areTurns_1.g
    rw [show slices_IndexFunc_int64_int64_impl_areAll_int64_1_impl_areTurns_1.l0 k k l m l.length 0 = some j from h1, Option.bind_some, Option.bind_some]
    rw [List.drop_zero] at h2
    congr 1
    exact all_iff (p := fun x => !turnW m x) (fun _ => rfl) h2
  unfold impl_areTurns.f turnsW
  rw [length_f, Option.bind_some, within_f, Option.bind_some]
  by_cases c : 1 ≤ l.length ∧ l.length ≤ 120
  · rw [if_pos (decide_eq_true (by omega)), key, Option.bind_some, decide_eq_true c, Bool.true_and]
  · rw [if_neg (by simp; omega), decide_eq_false c, Bool.false_and]

theorem turnsW_el {p : Int} {cs : List Int} (h1 : 1 ≤ p) (h2 : p ≤ 6) (h : turnsW p cs = true) : (1 ≤ cs.length ∧ cs.length ≤ 120) ∧ ∀ i : Nat, i < cs.length → -1 ≤ rd cs i ∧ rd cs i < p := by
  unfold turnsW at h
  rw [Bool.and_eq_true] at h
  refine ⟨of_decide_eq_true h.1, fun i hi => ?_⟩
  have := of_decide_eq_true (List.all_eq_true.1 h.2 _ (rd_mem hi))
  rw [w64 (x := p - 1) (by omega) (by omega)] at this
  omega

theorem contains_f {k : Nat} {l : List Int} (hk : 2097152 ≤ k) (hl : l.length ≤ 1048576) (a : Int) : ∃ b, slices_Contains_int64_int64.f k l a = some b ∧ (b = true ↔ ∃ x ∈ l, x = a) := by
  obtain ⟨j, h1, h2⟩ := idx_run (L := slices_Index_int64_int64.l0 k) (p := fun x => decide (a = x)) (l := l) (c := a)
    (fun n i hi => by
      simp only [slices_Index_int64_int64.l0, slices_Index_int64_int64.s0]
      rw [if_pos (by omega), if_pos (by omega), if_pos (by omega), w64n (by omega)]
      by_cases c : a = rd l i
      · rw [if_pos c, if_pos (decide_eq_true c)]
      · rw [if_neg c, if_neg (by simpa using c)])
    (fun n => by
      simp only [slices_Index_int64_int64.l0, slices_Index_int64_int64.s0]
      rw [if_neg (by omega)]) l.length 0 k (by omega) (by omega) (by omega)
  unfold slices_Contains_int64_int64.f slices_Index_int64_int64.f slices_Index_int64_int64.g
  rw [show slices_Index_int64_int64.l0 k k l a l.length 0 = some j from h1, Option.bind_some]
  refine ⟨_, rfl, ?_⟩
  rw [decide_eq_true_eq, h2, List.drop_zero]
  constructor
  · rintro ⟨x, hx, e⟩; exact ⟨x, hx, (of_decide_eq_true e).symm⟩
  · rintro ⟨x, hx, e⟩; exact ⟨x, hx, decide_eq_true e.symm⟩

end Go.Proofs.Ytmgdobiloapelaa.Vf
