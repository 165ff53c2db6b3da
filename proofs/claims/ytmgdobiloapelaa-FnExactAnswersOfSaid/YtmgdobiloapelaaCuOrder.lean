/- Orders: the reference's look at them, with marks. -/
import Derived.Test.YtmgdobiloapelaaCx3
import Derived.Test.YtmgdobiloapelaaCx5
import Derived.Test.YtmgdobiloapelaaCuJobs
set_option linter.unusedVariables false
set_option linter.unusedSimpArgs false
namespace Go.Proofs.Ytmgdobiloapelaa.Cb
open Go.RowKit Go.Proofs.YtmgdobiloapelaaW.PrintWords Go.Proofs.YtmgdobiloapelaaW.PrintLast Go.Proofs.Ytmgdobiloapelaa.C

/-- What the reference's loop tells: no number twice, none out of range. -/
def ordF (n : Int) : List Int → List Bool → Bool
  | [], _ => true
  | x :: s, m => decide (0 ≤ x ∧ x < n) && !(m.getD x.toNat false) && ordF n s (m.set x.toNat true)
theorem getD_set_bool (m : List Bool) (i j : Nat) (h : i < m.length) : (m.set i true).getD j false = if j = i then true else m.getD j false := by
  rw [List.getD_eq_getElem?_getD, List.getD_eq_getElem?_getD, List.getElem?_set]
  by_cases e : i = j
  · subst e; simp [h]
  · rw [if_neg e, if_neg (fun h => e h.symm)]
theorem ordF_iff (n : Nat) : ∀ (s : List Int) (m : List Bool), m.length = n → (ordF n s m = true ↔ (∀ x ∈ s, 0 ≤ x ∧ x < n) ∧ s.Nodup ∧ ∀ x ∈ s, m.getD x.toNat false = false) := by
  intro s
  induction s with
  | nil => intro m hm; simp [ordF]
  | cons x s ih =>
    intro m hm
    rw [ordF, Bool.and_eq_true, Bool.and_eq_true, decide_eq_true_eq, ih _ (by simp [hm])]
    constructor
    · rintro ⟨⟨h1, h2⟩, h3, h4, h5⟩
      have h2' : m.getD x.toNat false = false := by simpa using h2
      refine ⟨?_, ?_, ?_⟩
      · intro y hy
        rcases List.mem_cons.mp hy with rfl | hy
        · exact h1
        · exact h3 y hy
      · rw [List.nodup_cons]
        refine ⟨fun hx => ?_, h4⟩
        have := h5 x hx
        rw [getD_set_bool m _ _ (by omega), if_pos rfl] at this
        cases this
      · intro y hy
        rcases List.mem_cons.mp hy with rfl | hy
        · exact h2'
        · have := h5 y hy
          rw [getD_set_bool m _ _ (by omega)] at this
          split at this
          · cases this
          · exact this
    · rintro ⟨h1, h2, h3⟩
      rw [List.nodup_cons] at h2
      have hx := h1 x (by simp)
      refine ⟨⟨hx, by rw [h3 x (by simp)]; rfl⟩, fun y hy => h1 y (by simp [hy]), h2.2, fun y hy => ?_⟩
      have hy1 := h1 y (by simp [hy])
      rw [getD_set_bool m _ _ (by omega), if_neg (fun e => ?_)]
      · exact h3 y (by simp [hy])
      · have : y = x := by omega
        subst this
        exact h2.1 hy
theorem orderB_iff (l : List Int) (n : Nat) : orderB l n = true ↔ (∀ x ∈ l, 0 ≤ x ∧ x < n) ∧ l.length = n ∧ l.Nodup := by
  unfold orderB
  simp only [Bool.and_eq_true, decide_eq_true_eq, List.all_eq_true, inR]
  constructor
  · rintro ⟨⟨h1, h2⟩, h3⟩
    exact ⟨fun x hx => by have := h1 x hx; omega, by omega, h3⟩
  · rintro ⟨h1, h2, h3⟩
    exact ⟨⟨fun x hx => by have := h1 x hx; omega, by omega⟩, h3⟩
theorem getD_replicate_false (n i : Nat) : (List.replicate n false).getD i false = false := by
  rw [List.getD_eq_getElem?_getD, List.getElem?_replicate]
  split <;> rfl
theorem ordF_order (l : List Int) (n : Nat) : (ordF n l (List.replicate n false) && decide (l.length = n)) = orderB l n := by
  rw [Bool.eq_iff_iff, Bool.and_eq_true, decide_eq_true_eq, ordF_iff n l _ (by simp), orderB_iff]
  constructor
  · rintro ⟨⟨h1, h2, _⟩, h4⟩; exact ⟨h1, h4, h2⟩
  · rintro ⟨h1, h2, h3⟩; exact ⟨⟨h1, h3, fun x _ => getD_replicate_false n _⟩, h2⟩
theorem specOrder_ev (l : List Int) (n : Nat) (hl : l.length ≤ 35184372088832) (hn : n ≤ 35184372088832) : Ev (fun k => spec_l01Order.f k l n) (orderB l n) := by
  unfold spec_l01Order.f
  refine ev_pos (by omega) (ev_pos (by omega) ?_)
  rw [Int.toNat_natCast]
  have : ∀ (suf : List Int) (i : Nat) (m : List Bool), l.drop i = suf → m.length = n → Ev (fun k => spec_l01Order.l0 k l n m i) (ordF n suf m && decide (l.length = n)) := by
    intro suf
    induction suf with
    | nil =>
      intro i m h hm
      have := drop_nil h
      refine ev_succ ?_
      simp only [spec_l01Order.l0]
      refine ev_neg (by omega) (ev_val (Ev.now _) ?_)
      rw [ordF, Bool.true_and, Bool.eq_iff_iff]
      simp
      omega
    | cons x suf ih =>
      intro i m h hm
      obtain ⟨hi, hx, hs⟩ := drop_split h
      refine ev_succ ?_
      simp only [spec_l01Order.l0]
      refine ev_pos (by omega) (ev_pos (by omega) (ev_bnd (in_some _ _ _) ?_))
      rw [hx, show wrap64 ((n : Int) - 1) = (n : Int) - 1 from w64 (by omega) (by omega), show wrap64 ((i : Int) + 1) = ((i + 1 : Nat) : Int) from w64n (by omega)]
      by_cases c : inB 0 ((n : Int) - 1) x = true
      · have c' := (inB_iff _ _ _).mp c
        refine ev_pos c (ev_pos (by omega) (ev_pos (by omega) ?_))
        by_cases c2 : rdOf false m x = true
        · refine ev_pos c2 (ev_val (Ev.now _) ?_)
          have c3 : m.getD x.toNat false = true := c2
          rw [ordF, c3]
          simp
        · refine ev_neg c2 (ev_val (ih (i + 1) _ hs (by simp [hm])) ?_)
          have c3 : m.getD x.toNat false = false := by simpa [rdOf] using c2
          rw [ordF, c3, show decide (0 ≤ x ∧ x < (n : Int)) = true from decide_eq_true (by omega)]
          simp
      · refine ev_neg c (ev_val (Ev.now _) ?_)
        have : ¬ (0 ≤ x ∧ x < (n : Int)) := fun h => c ((inB_iff _ _ _).mpr (by omega))
        rw [ordF, decide_eq_false this]
        simp
  exact ev_val (this l 0 _ (by simp) (by simp)) (ordF_order l n)
theorem isOrder_some (l : List Int) (n : Nat) (hl : l.length ≤ 35184372088832) (hn : n ≤ 35184372088832) : impl_isOrder.f l n = some (orderB l n) := by
  unfold impl_isOrder.f
  rw [if_pos ⟨⟨by omega, by omega⟩, hl⟩]
end Go.Proofs.Ytmgdobiloapelaa.Cb
