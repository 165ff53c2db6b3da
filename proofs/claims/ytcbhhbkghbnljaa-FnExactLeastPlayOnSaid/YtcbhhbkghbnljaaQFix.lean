/- What lasts under sweeps; numbers of marks. Plain. -/
import Derived.Test.YtcbhhbkghbnljaaQ02g
set_option linter.unusedVariables false
set_option linter.unusedSimpArgs false
namespace Go.Proofs.Ytcbhhbkghbnljaa.Vf
open Go Go.V Go.RowKit

theorem swp_flag (g : List Bool → Nat → Bool) : ∀ (d i : Nat) (L : List Bool), (swp g d i L true).2 = true
  | 0, i, L => rfl
  | d + 1, i, L => by
    by_cases hb : L.getD i false = true
    · by_cases hg : g L i = true
      · rw [swp_good hb hg]; exact swp_flag g d (i + 1) L
      · rw [swp_bad hb hg]; exact swp_flag g d (i + 1) _
    · rw [swp_end _ _ _ _ _ hb]; exact swp_flag g d (i + 1) L

theorem swp_still (g : List Bool → Nat → Bool) : ∀ (d i : Nat) (L : List Bool), (swp g d i L false).2 = false → (swp g d i L false).1 = L ∧ ∀ j, i ≤ j → j < i + d → L.getD j false = true → g L j = true
  | 0, i, L, _ => ⟨rfl, fun j h1 h2 => by omega⟩
  | d + 1, i, L, h => by
    by_cases hb : L.getD i false = true
    · by_cases hg : g L i = true
      · rw [swp_good hb hg] at h ⊢
        obtain ⟨h1, h2⟩ := swp_still g d (i + 1) L h
        refine ⟨h1, fun j h3 h4 h5 => ?_⟩
        by_cases e : j = i
        · rw [e]; exact hg
        · exact h2 j (by omega) (by omega) h5
      · rw [swp_bad hb hg, swp_flag] at h; cases h
    · rw [swp_end _ _ _ _ _ hb] at h ⊢
      obtain ⟨h1, h2⟩ := swp_still g d (i + 1) L h
      refine ⟨h1, fun j h3 h4 h5 => ?_⟩
      by_cases e : j = i
      · rw [e] at h5; exact absurd h5 hb
      · exact h2 j (by omega) (by omega) h5

theorem fix_good (g : List Bool → Nat → Bool) : ∀ (n : Nat) (L L' : List Bool) (ch : Bool), fixO g n L ch = some L' → (ch = false → ∀ j, j < L.length → L.getD j false = true → g L j = true) → ∀ j, j < L'.length → L'.getD j false = true → g L' j = true
  | 0, _, _, _, h, _ => by cases h
  | n + 1, L, L', false, h, hg => by
    obtain rfl : L = L' := by simpa [fixO] using h
    exact hg rfl
  | n + 1, L, L', true, h, hg => by
    have h' : fixO g n (swp g L.length 0 L false).1 (swp g L.length 0 L false).2 = some L' := by simpa [fixO] using h
    refine fix_good g n _ L' _ h' fun hf => ?_
    obtain ⟨h1, h2⟩ := swp_still g L.length 0 L hf
    rw [h1]
    exact fun j h3 h4 => h2 j (by omega) (by omega) h4

def negs (l : List Int) : Nat := (l.filter fun x => decide (x < 0)).length

theorem negs_set : ∀ {l : List Int} {i : Nat} {x : Int}, i < l.length → l.getD i 0 < 0 → 0 ≤ x → negs (l.set i x) + 1 = negs l
  | [], i, x, h, _, _ => by simp at h
  | a :: l, 0, x, _, h, h0 => by
    have h1 : ¬ x < 0 := by omega
    have h2 : a < 0 := by simpa using h
    simp [negs, h1, h2]
  | a :: l, i + 1, x, hi, h, h0 => by
    have := negs_set (l := l) (i := i) (x := x) (by simpa using hi) (by simpa using h) h0
    unfold negs at this ⊢
    rw [List.set_cons_succ, List.filter_cons, List.filter_cons]
    by_cases e : a < 0
    · rw [if_pos (by simpa using e), if_pos (by simpa using e), List.length_cons, List.length_cons]; omega
    · rw [if_neg (by simpa using e), if_neg (by simpa using e)]; exact this

theorem negs_rep : ∀ (m : Nat), negs (List.replicate m (-1 : Int)) = m := by
  intro m
  induction m with
  | zero => rfl
  | succ m ih =>
    unfold negs at ih ⊢
    rw [List.replicate_succ, List.filter_cons, if_pos (by simp), List.length_cons, ih]

theorem rd_set {l : List Int} {i j : Nat} {x : Int} (h : i < l.length) : rd (l.set i x) j = if j = i then x else rd l j := by
  rw [rd_nat, rd_nat, List.getD_eq_getElem?_getD, List.getD_eq_getElem?_getD, List.getElem?_set]
  by_cases e : i = j
  · subst e; rw [if_pos rfl, if_pos h, if_pos rfl]; rfl
  · rw [if_neg e, if_neg (fun c => e c.symm)]

end Go.Proofs.Ytcbhhbkghbnljaa.Vf
