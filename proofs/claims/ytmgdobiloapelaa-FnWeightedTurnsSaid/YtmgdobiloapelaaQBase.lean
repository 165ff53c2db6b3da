/- Small laws on numbers, lists and loops of the plain functions. -/
import Derived.Test.YtmgdobiloapelaaFa
set_option linter.unusedVariables false
set_option linter.unusedSimpArgs false
namespace Go.Proofs.Ytmgdobiloapelaa.Vf
open Go Go.V Go.RowKit

theorem w64 {x : Int} (h : -9223372036854775808 ≤ x) (h2 : x ≤ 9223372036854775807) : wrap64 x = x := by unfold wrap64; omega
theorem w64n {i : Nat} (h : i ≤ 9223372036854775806) : wrap64 ((i : Int) + 1) = ((i + 1 : Nat) : Int) := by rw [w64 (by omega) (by omega)]; omega
theorem rd_nat (l : List Int) (i : Nat) : rd l (i : Int) = l.getD i 0 := by unfold rd; rw [Int.toNat_natCast]
theorem rd_lt {l : List Int} {i : Nat} (h : i < l.length) : rd l (i : Int) = l[i] := by rw [rd_nat, List.getD_eq_getElem?_getD, List.getElem?_eq_getElem h, Option.getD_some]
theorem rdOf_nat {α : Type} (d : α) (l : List α) (i : Nat) : rdOf d l (i : Int) = l.getD i d := by unfold rdOf; rw [Int.toNat_natCast]
theorem rdOf_lt {α : Type} {d : α} {l : List α} {i : Nat} (h : i < l.length) : rdOf d l (i : Int) = l[i] := by rw [rdOf_nat, List.getD_eq_getElem?_getD, List.getElem?_eq_getElem h, Option.getD_some]
theorem rd_mem {l : List Int} {i : Nat} (h : i < l.length) : rd l (i : Int) ∈ l := by rw [rd_lt h]; exact List.getElem_mem h
theorem drop_cons {l : List Int} {i : Nat} (h : i < l.length) : l.drop i = rd l (i : Int) :: l.drop (i + 1) := by rw [rd_lt h]; exact List.drop_eq_getElem_cons h

/-- An int64. -/
def I64 (x : Int) : Prop := -9223372036854775808 ≤ x ∧ x ≤ 9223372036854775807
theorem I64.of_wf {x : Int} (h : (Lit.int .i64 x).wf = true) : I64 x := by
  simp only [Lit.wf, Bool.and_eq_true, decide_eq_true_eq] at h
  exact ⟨by have := h.1; simpa [IntKind.min, IntKind.signed, IntKind.bits] using this, by have := h.2; simpa [IntKind.max, IntKind.signed, IntKind.bits] using this⟩
theorem maxLen_eq : maxLen = 9223372036854775807 := by decide

theorem set_step (l : List Int) (i : Nat) (h : i < l.length) : (l.take i ++ List.replicate (l.length - i) 0).set i (rd l i) = l.take (i + 1) ++ List.replicate (l.length - (i + 1)) 0 := by
  rw [rd_lt h, List.set_append_right _ _ (by simp; omega)]
  rw [show i - (List.take i l).length = 0 from by simp; omega]
  rw [show l.length - i = (l.length - (i + 1)) + 1 by omega, List.replicate_succ, List.set_cons_zero, List.take_succ_eq_append_getElem h, List.append_assoc]
  rfl

/-- A search along a list. -/
theorem idx_run {γ : Type} {L : Nat → List Int → γ → Int → Int → Option Int} {p : Int → Bool} {l : List Int} {c : γ}
    (hs : ∀ n (i : Nat), i < l.length → L (n + 1) l c l.length i = if p (rd l i) = true then some (i : Int) else L n l c l.length ((i + 1 : Nat) : Int)) (he : ∀ n, L (n + 1) l c l.length l.length = some (-1)) :
    ∀ (d i n : Nat), l.length - i = d → i ≤ l.length → d < n → ∃ j : Int, L n l c l.length i = some j ∧ ((0 ≤ j) ↔ ∃ x ∈ l.drop i, p x = true) := by
  intro d
  induction d with
  | zero =>
    intro i n hd hi hn
    obtain rfl : i = l.length := by omega
    cases n with
    | zero => omega
    | succ n => exact ⟨-1, he n, by simp⟩
  | succ d ih =>
    intro i n hd hi hn
    cases n with
    | zero => omega
    | succ n =>
      rw [hs n i (by omega), drop_cons (by omega)]
      by_cases hp : p (rd l i) = true
      · rw [if_pos hp]
        exact ⟨i, rfl, by simp [hp]⟩
      · rw [if_neg hp]
        obtain ⟨j, h1, h2⟩ := ih (i + 1) n (by omega) (by omega) (by omega)
        exact ⟨j, h1, by rw [h2]; simp [hp]⟩

theorem all_iff {l : List Int} {p q : Int → Bool} (h : ∀ x, p x = !q x) {j : Int} (hj : (0 ≤ j) ↔ ∃ x ∈ l, p x = true) : (!decide (decide (0 ≤ j) = true)) = l.all q := by
  rw [Bool.eq_iff_iff]
  simp only [Bool.not_eq_true', decide_eq_false_iff_not, decide_eq_true_eq, List.all_eq_true]
  rw [hj]
  constructor
  · intro hn x hx
    cases hq : q x with
    | true => rfl
    | false => exact absurd ⟨x, hx, by rw [h, hq]; rfl⟩ hn
  · rintro hall ⟨x, hx, hp⟩
    rw [h, hall x hx] at hp
    cases hp

end Go.Proofs.Ytmgdobiloapelaa.Vf
