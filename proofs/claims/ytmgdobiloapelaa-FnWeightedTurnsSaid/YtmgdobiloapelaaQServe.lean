/- Turns that go round through states serve. -/
import Derived.Test.YtmgdobiloapelaaQDraw
import Derived.Test.YtmgdobiloapelaaQ01
set_option linter.unusedVariables false
set_option linter.unusedSimpArgs false
namespace Go.Proofs.Ytmgdobiloapelaa.Vf
open Go Go.V Go.RowKit

theorem rd_app1 (P : List Int) (x : Int) (j : Nat) : rd (P ++ [x]) j = if j < P.length then rd P j else if j = P.length then x else 0 := by
  rw [rd_nat, rd_nat, List.getD_eq_getElem?_getD, List.getD_eq_getElem?_getD]
  by_cases h : j < P.length
  · rw [if_pos h, List.getElem?_append_left h]
  · rw [if_neg h, List.getElem?_append_right (by omega)]
    by_cases e : j = P.length
    · rw [if_pos e, e]; simp
    · rw [if_neg e, List.getElem?_eq_none (by simp; omega)]; rfl

/-- What a task has left, slot by slot. -/
structure Turn (cs : List Int) (t g : Int) (X : Nat → Int) : Prop where
  st : ∀ j : Nat, j < cs.length → X (j + 1) = if rd cs j = t then g else X j - 1
  bd : ∀ j : Nat, j ≤ cs.length → 1 ≤ X j ∧ X j ≤ g
  ret : X cs.length = X 0

/-- The places that are found. -/
structure PlI (t g : Int) (X : Nat → Int) (i : Nat) (P : List Int) : Prop where
  len : P.length ≤ i
  el : ∀ j : Nat, j < P.length → 0 ≤ rd P j ∧ rd P j < i
  df : ∀ j : Nat, j + 1 < P.length → rd P ((j + 1 : Nat) : Int) - rd P j ≤ g
  no : P.length = 0 → X i = X 0 - i
  la : 1 ≤ P.length → X i = g - (i - rd P ((P.length - 1 : Nat) : Int) - 1)
  fi : 1 ≤ P.length → X (rd P ((0 : Nat) : Int)).toNat = X 0 - rd P ((0 : Nat) : Int)

theorem PlI.skip {cs : List Int} {t g : Int} {X : Nat → Int} (T : Turn cs t g X) {i : Nat} {P : List Int} (I : PlI t g X i P) (hi : i < cs.length) (h : ¬ rd cs i = t) : PlI t g X (i + 1) P := by
  have hs := T.st i hi
  rw [if_neg h] at hs
  have hl := I.len
  refine ⟨by omega, fun j hj => ?_, I.df, fun h0 => ?_, fun h1 => ?_, I.fi⟩
  · have := I.el j hj; omega
  · have := I.no h0; rw [hs, this]; push_cast; omega
  · have := I.la h1; rw [hs, this]; push_cast; omega

theorem PlI.take {cs : List Int} {t g : Int} {X : Nat → Int} (T : Turn cs t g X) {i : Nat} {P : List Int} (I : PlI t g X i P) (hi : i < cs.length) (h : rd cs i = t) : PlI t g X (i + 1) (P ++ [(i : Int)]) := by
  have hs := T.st i hi
  rw [if_pos h] at hs
  have hb := T.bd i (by omega)
  have hl := I.len
  have e1 : (P ++ [(i : Int)]).length = P.length + 1 := by simp
  refine ⟨by omega, fun j hj => ?_, fun j hj => ?_, fun h0 => by omega, fun h1 => ?_, fun h1 => ?_⟩
  · rw [rd_app1]
    split
    · rename_i hlt; have := I.el j hlt; omega
    · rw [if_pos (by omega)]; omega
  · rw [rd_app1, rd_app1]
    by_cases c : j + 1 < P.length
    · rw [if_pos c, if_pos (by omega)]; exact I.df j c
    · have hj' : j + 1 = P.length := by omega
      rw [if_neg c, if_pos hj', if_pos (by omega)]
      have := I.la (by omega)
      rw [show P.length - 1 = j by omega] at this
      omega
  · rw [e1, show P.length + 1 - 1 = P.length by omega, rd_app1, if_neg (by omega), if_pos rfl, hs]; push_cast; omega
  · rw [rd_app1]
    by_cases c : 0 < P.length
    · rw [if_pos c]; exact I.fi (by omega)
    · rw [if_neg c, if_pos (by omega), Int.toNat_natCast]
      exact I.no (by omega)

def turnB (m : Int) (c : Int) : Bool := decide (-1 ≤ c ∧ c ≤ m - 1)

theorem areTurns_all {k : Nat} {l : List Int} {m : Int} (hk : 2097152 ≤ k) (hl : l.length ≤ 1048576) (hm : 0 ≤ m) (hm2 : m ≤ 1048576) : impl_areAll_int64_impl_areTurns_1.f k l m = some (l.all (turnB m)) := by
  obtain ⟨j, h1, h2⟩ := idx_run (L := slices_IndexFunc_int64_int64_impl_areAll_int64_1_impl_areTurns_1.l0 k) (p := fun x => !turnB m x) (l := l) (c := m)
    (fun n i hi => by
      simp only [slices_IndexFunc_int64_int64_impl_areAll_int64_1_impl_areTurns_1.l0, slices_IndexFunc_int64_int64_impl_areAll_int64_1_impl_areTurns_1.s0]
      rw [if_pos (by omega), if_pos (by omega), if_pos (by omega)]
      simp only [impl_areAll_int64_1_impl_areTurns_1.f, impl_areTurns_1.f, within_f, Option.bind_some, w64n (show i ≤ 9223372036854775806 by omega), w64 (x := m - 1) (by omega) (by omega)]
      unfold turnB
      cases decide (-1 ≤ rd l i ∧ rd l i ≤ m - 1) <;> simp)
    (fun n => by
      simp only [slices_IndexFunc_int64_int64_impl_areAll_int64_1_impl_areTurns_1.l0, slices_IndexFunc_int64_int64_impl_areAll_int64_1_impl_areTurns_1.s0]
      rw [if_neg (by omega)]) l.length 0 k (by omega) (by omega) (by omega)
  unfold impl_areAll_int64_impl_areTurns_1.f slices_ContainsFunc_int64_int64_impl_areAll_int64_1_impl_areTurns_1.f slices_IndexFunc_int64_int64_impl_areAll_int64_1_impl_areTurns_1.f slices_IndexFunc_int64_int64_impl_areAll_int64_1_impl_areTurns_1.g
  rw [show slices_IndexFunc_int64_int64_impl_areAll_int64_1_impl_areTurns_1.l0 k k l m l.length 0 = some j from h1, Option.bind_some, Option.bind_some]
  rw [List.drop_zero] at h2
  congr 1
  exact all_iff (p := fun x => !turnB m x) (fun _ => rfl) h2

end Go.Proofs.Ytmgdobiloapelaa.Vf
