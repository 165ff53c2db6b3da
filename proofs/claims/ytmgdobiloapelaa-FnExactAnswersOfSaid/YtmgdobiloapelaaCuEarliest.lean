/- Slots by earliest deadlines: one model for the program and the reference. -/
import Derived.Test.YtmgdobiloapelaaCx0
import Derived.Test.YtmgdobiloapelaaCuJobs
set_option linter.unusedVariables false
set_option linter.unusedSimpArgs false
namespace Go.Proofs.Ytmgdobiloapelaa.Cb
open Go.RowKit Go.Proofs.YtmgdobiloapelaaW.PrintWords Go.Proofs.YtmgdobiloapelaaW.PrintLast Go.Proofs.Ytmgdobiloapelaa.C

/-- The first one that is late, or -1. -/
def lateF (l u : List Int) (s : Int) : Nat → Nat → Int
  | 0, _ => -1
  | d + 1, i => if 0 < rd l i ∧ rd u i ≤ s then (i : Int) else lateF l u s d (i + 1)
/-- What is left, what is due, and whose turn it is, behind a slot's releases. -/
def pickE (L P D : List Int) (s : Int) : Nat → Nat → List Int → List Int → Int → List Int × List Int × Int
  | 0, _, l, u, b => (l, u, b)
  | d + 1, i, l, u, b =>
    let l' := if Int.tmod s (rd P i) = 0 then l.set i (rd L i) else l
    let u' := if Int.tmod s (rd P i) = 0 then u.set i (s + rd D i) else u
    let b' := if 0 < rd l' i ∧ (b = -1 ∨ rd u' i < rd u' b) then (i : Int) else b
    pickE L P D s d (i + 1) l' u' b'
def served (l : List Int) (b : Int) : List Int := if b = -1 then l else l.set b.toNat (rd l b - 1)
/-- The slots from one on, d of them, and the first late task, or -1. -/
def edf (L P D : List Int) : Nat → Int → List Int → List Int → List Int → List Int × Int
  | 0, s, l, u, out => (out, lateF l u s L.length 0)
  | d + 1, s, l, u, out =>
    if 0 ≤ lateF l u s L.length 0 then (out, lateF l u s L.length 0)
    else
      edf L P D d (s + 1) (served (pickE L P D s L.length 0 l u (-1)).1 (pickE L P D s L.length 0 l u (-1)).2.2) (pickE L P D s L.length 0 l u (-1)).2.1 (out ++ [(pickE L P D s L.length 0 l u (-1)).2.2])
theorem lateF_cases (l u : List Int) (s : Int) : ∀ (d i : Nat), lateF l u s d i = -1 ∧ (∀ j, i ≤ j → j < i + d → ¬ (0 < rd l j ∧ rd u j ≤ s)) ∨ ∃ j : Nat, lateF l u s d i = j ∧ i ≤ j ∧ j < i + d ∧ 0 < rd l j ∧ rd u j ≤ s := by
  intro d
  induction d with
  | zero => intro i; exact .inl ⟨rfl, fun j h1 h2 => by omega⟩
  | succ d ih =>
    intro i
    unfold lateF
    by_cases h : 0 < rd l i ∧ rd u i ≤ s
    · rw [if_pos h]
      exact .inr ⟨i, rfl, Nat.le_refl _, by omega, h⟩
    · rw [if_neg h]
      rcases ih (i + 1) with ⟨h1, h2⟩ | ⟨j, h1, h2, h3, h4⟩
      · refine .inl ⟨h1, fun j hj hj2 => ?_⟩
        rcases Nat.eq_or_lt_of_le hj with rfl | hlt
        · exact h
        · exact h2 j hlt (by omega)
      · exact .inr ⟨j, h1, by omega, by omega, h4⟩
/-- What holds from slot to slot. -/
structure Held (L : List Int) (l u : List Int) (b : Int) : Prop where
  hl : l.length = L.length
  hu : u.length = L.length
  bnd : ∀ i : Nat, i < L.length → 0 ≤ rd l i ∧ rd l i ≤ 20
  best : b = -1 ∨ 0 ≤ b ∧ b < L.length ∧ 0 < rd l b
theorem rd_set' (l : List Int) (i : Nat) (j : Int) (v : Int) (hj : 0 ≤ j) (h : i < l.length) : rd (l.set i v) j = if j = i then v else rd l j := by
  obtain ⟨n, rfl⟩ := Int.eq_ofNat_of_zero_le hj
  rw [rd_set l i n v h]
  by_cases e : n = i
  · simp [e]
  · rw [if_neg e, if_neg (by omega)]
theorem Held.step {L P D l u : List Int} {b : Int} (J : JobsP L P D) (H : Held L l u b) (s : Int) (i : Nat) (hi : i < L.length) :
    let l' := if Int.tmod s (rd P i) = 0 then l.set i (rd L i) else l
    let u' := if Int.tmod s (rd P i) = 0 then u.set i (s + rd D i) else u
    let b' := if 0 < rd l' i ∧ (b = -1 ∨ rd u' i < rd u' b) then (i : Int) else b
    Held L l' u' b' := by
  intro l' u' b'
  have hl' : l'.length = L.length := by show (if _ then _ else _ : List Int).length = _; split <;> simp [H.hl]
  have hu' : u'.length = L.length := by show (if _ then _ else _ : List Int).length = _; split <;> simp [H.hu]
  have hrd : ∀ j : Int, 0 ≤ j → rd l' j = if Int.tmod s (rd P i) = 0 ∧ j = i then rd L i else rd l j := by
    intro j hj
    show rd (if _ then _ else _) j = _
    by_cases c : Int.tmod s (rd P i) = 0
    · rw [if_pos c, rd_set' l i j _ hj (by rw [H.hl]; exact hi)]
      by_cases e : j = i
      · simp [e, c]
      · simp [e]
    · simp [c]
  have hJ := (J.each i hi).1
  refine ⟨hl', hu', fun j hj => ?_, ?_⟩
  · rw [hrd j (by omega)]
    split
    · omega
    · exact H.bnd j hj
  · show (if _ then _ else _) = (-1 : Int) ∨ _
    by_cases c : 0 < rd l' i ∧ (b = -1 ∨ rd u' i < rd u' b)
    · have e : b' = i := if_pos c
      refine .inr ?_
      rw [e]
      exact ⟨by omega, by omega, c.1⟩
    · have e : b' = b := if_neg c
      rw [e]
      rcases H.best with h | ⟨h1, h2, h3⟩
      · exact .inl (by rw [if_neg c]; exact h)
      · refine .inr ⟨h1, h2, ?_⟩
        rw [hrd b h1]
        split
        · omega
        · exact h3
theorem Held.pick {L P D : List Int} (J : JobsP L P D) (s : Int) : ∀ (d i : Nat) (l u : List Int) (b : Int), i + d = L.length → Held L l u b →
    Held L (pickE L P D s d i l u b).1 (pickE L P D s d i l u b).2.1 (pickE L P D s d i l u b).2.2 := by
  intro d
  induction d with
  | zero => intro i l u b _ H; exact H
  | succ d ih => intro i l u b hd H; exact ih (i + 1) _ _ _ (by omega) (H.step J s i (by omega))
theorem Held.serve {L l u : List Int} {b : Int} (H : Held L l u b) : Held L (served l b) u (-1) := by
  unfold served
  by_cases h : b = -1
  · rw [if_pos h]
    exact ⟨H.hl, H.hu, H.bnd, .inl rfl⟩
  · rw [if_neg h]
    rcases H.best with h1 | ⟨h1, h2, h3⟩
    · exact absurd h1 h
    · refine ⟨by simp [H.hl], H.hu, fun i hi => ?_, .inl rfl⟩
      have hb := H.bnd b.toNat (by omega)
      rw [Int.toNat_of_nonneg h1] at hb
      rw [rd_set l b.toNat i _ (by rw [H.hl]; omega)]
      split
      · omega
      · exact H.bnd i hi
theorem Held.zero (L : List Int) : Held L (List.replicate L.length 0) (List.replicate L.length 0) (-1) := by
  refine ⟨by simp, by simp, fun i hi => ?_, .inl rfl⟩
  rw [rd_replicate0]
  omega

/-- Nothing that is left is due before a slot's end, behind the look for late ones. -/
theorem pick_due {L P D : List Int} (J : JobsP L P D) (s : Int) : ∀ (d i : Nat) (l u : List Int) (b : Int), i + d = L.length → Held L l u b → (∀ j : Nat, j < L.length → 0 < rd l j → s + 1 ≤ rd u j) →
    ∀ j : Nat, j < L.length → 0 < rd (pickE L P D s d i l u b).1 j → s + 1 ≤ rd (pickE L P D s d i l u b).2.1 j := by
  intro d
  induction d with
  | zero => intro i l u b _ _ h; exact h
  | succ d ih =>
    intro i l u b hd H h
    refine ih (i + 1) _ _ _ (by omega) (H.step J s i (by omega)) ?_
    intro j hj hj2
    have hE := J.each i (by omega)
    by_cases c : Int.tmod s (rd P i) = 0
    · rw [if_pos c] at hj2 ⊢
      rw [rd_set _ _ _ _ (by rw [H.hl]; omega)] at hj2
      rw [rd_set _ _ _ _ (by rw [H.hu]; omega)]
      by_cases e : j = i
      · rw [if_pos e]; omega
      · rw [if_neg e] at hj2 ⊢
        exact h j hj hj2
    · rw [if_neg c] at hj2 ⊢
      exact h j hj hj2
theorem served_pos {L l u : List Int} {b : Int} (H : Held L l u b) (j : Nat) (hj : 0 < rd (served l b) j) : 0 < rd l j := by
  unfold served at hj
  split at hj
  · exact hj
  · rename_i h
    rcases H.best with h1 | ⟨h1, h2, h3⟩
    · exact absurd h1 h
    rw [rd_set l b.toNat j _ (by rw [H.hl]; omega)] at hj
    split at hj
    · rename_i e
      subst e
      rw [Int.toNat_of_nonneg h1]
      exact h3
    · exact hj
/-- The slots of jobs, and the first late task, or -1. -/
def slotsOf (L P D : List Int) : List Int × Int := edf L P D (wholeN P) 0 (List.replicate L.length 0) (List.replicate L.length 0) []
theorem wholeN_pos {L P D : List Int} (J : JobsP L P D) : 0 < wholeN P := lcms_pos _ 1 (by omega) J.periods.pos
theorem edf_length (L P D : List Int) : ∀ (d : Nat) (s : Int) (l u out : List Int), (edf L P D d s l u out).1.length ≤ out.length + d ∧ ((edf L P D d s l u out).2 < 0 → (edf L P D d s l u out).1.length = out.length + d) := by
  intro d
  induction d with
  | zero => intro s l u out; simp [edf]
  | succ d ih =>
    intro s l u out
    rw [edf]
    split
    · rename_i h
      exact ⟨by simp, fun h2 => absurd h (by simp at h2; omega)⟩
    · have := ih (s + 1) (served (pickE L P D s L.length 0 l u (-1)).1 (pickE L P D s L.length 0 l u (-1)).2.2) (pickE L P D s L.length 0 l u (-1)).2.1 (out ++ [(pickE L P D s L.length 0 l u (-1)).2.2])
      rw [List.length_append, List.length_singleton] at this
      exact ⟨by omega, fun h => by have := this.2 h; omega⟩
theorem slotsOf_length (L P D : List Int) : (slotsOf L P D).1.length ≤ wholeN P := by
  have := (edf_length L P D (wholeN P) 0 (List.replicate L.length 0) (List.replicate L.length 0) []).1
  simpa [slotsOf] using this
def deadlineOut (L P D : List Int) : List Int × Int := if codeJ L P D = 0 then ((slotsOf L P D).1, 0) else ([], codeJ L P D)
theorem deadlineOut_length (L P D : List Int) : (deadlineOut L P D).1.length ≤ 240 := by
  unfold deadlineOut
  split
  · rename_i h
    exact Nat.le_trans (slotsOf_length L P D) (codeJ_zero h).2
  · simp
end Go.Proofs.Ytmgdobiloapelaa.Cb
