/- Slots by earliest deadlines: one model for the program and the reference. -/
import Derived.Test.YtmgdobiloapelaaBx4
import Derived.Test.YtmgdobiloapelaaBx5
import Derived.Test.YtmgdobiloapelaaBx7
import Derived.Test.YtmgdobiloapelaaBuJobs
set_option linter.unusedVariables false
set_option linter.unusedSimpArgs false
namespace Go.Proofs.Ytmgdobiloapelaa.Bb
open Go.RowKit Go.Proofs.YtmgdobiloapelaaW.PrintWords Go.Proofs.YtmgdobiloapelaaW.PrintLast Go.Proofs.Ytmgdobiloapelaa.B

/-- The first one that is late, or -1. -/
def lateF (l u : List Int) (s : Int) : Nat → Nat → Int
  | 0, _ => -1
  | d + 1, i => if 0 < rd l i ∧ rd u i ≤ s then (i : Int) else lateF l u s d (i + 1)
/-- What is left, what is due, and whose turn it is, behind a slot's releases. -/
def pickE (L P D : List Int) (s : Int) : Nat → Nat → List Int → List Int → Int → List Int × List Int × Int
  | 0, _, l, u, b => (l, u, b)
  | d + 1, i, l, u, b =>
    let l' := if Int.tmod s (rd P i) = 0 then l.set i (rd L i) else l
    let u' := if Int.tmod s (rd P i) = 0 then u.set i (s + rd D i) else u
    let b' := if 0 < rd l' i ∧ (b = -1 ∨ rd u' i < rd u' b) then (i : Int) else b
    pickE L P D s d (i + 1) l' u' b'
def served (l : List Int) (b : Int) : List Int := if b = -1 then l else l.set b.toNat (rd l b - 1)
/-- The slots from one on, d of them, and the first late task, or -1. -/
def edf (L P D : List Int) : Nat → Int → List Int → List Int → List Int → List Int × Int
  | 0, s, l, u, out => (out, lateF l u s L.length 0)
  | d + 1, s, l, u, out =>
    if 0 ≤ lateF l u s L.length 0 then (out, lateF l u s L.length 0)
    else
      edf L P D d (s + 1) (served (pickE L P D s L.length 0 l u (-1)).1 (pickE L P D s L.length 0 l u (-1)).2.2) (pickE L P D s L.length 0 l u (-1)).2.1 (out ++ [(pickE L P D s L.length 0 l u (-1)).2.2])
theorem lateF_cases (l u : List Int) (s : Int) : ∀ (d i : Nat), lateF l u s d i = -1 ∧ (∀ j, i ≤ j → j < i + d → ¬ (0 < rd l j ∧ rd u j ≤ s)) ∨ ∃ j : Nat, lateF l u s d i = j ∧ i ≤ j ∧ j < i + d ∧ 0 < rd l j ∧ rd u j ≤ s := by
  intro d
  induction d with
  | zero => intro i; exact .inl ⟨rfl, fun j h1 h2 => by omega⟩
  | succ d ih =>
    intro i
    unfold lateF
    by_cases h : 0 < rd l i ∧ rd u i ≤ s
    · rw [if_pos h]
      exact .inr ⟨i, rfl, Nat.le_refl _, by omega, h⟩
    · rw [if_neg h]
      rcases ih (i + 1) with ⟨h1, h2⟩ | ⟨j, h1, h2, h3, h4⟩
      · refine .inl ⟨h1, fun j hj hj2 => ?_⟩
        rcases Nat.eq_or_lt_of_le hj with rfl | hlt
        · exact h
        · exact h2 j hlt (by omega)
      · exact .inr ⟨j, h1, by omega, by omega, h4⟩
/-- What holds from slot to slot. -/
structure Held (L : List Int) (l u : List Int) (b : Int) : Prop where
  hl : l.length = L.length
  hu : u.length = L.length
  bnd : ∀ i : Nat, i < L.length → 0 ≤ rd l i ∧ rd l i ≤ 20
  best : b = -1 ∨ 0 ≤ b ∧ b < L.length ∧ 0 < rd l b
theorem rd_set' (l : List Int) (i : Nat) (j : Int) (v : Int) (hj : 0 ≤ j) (h : i < l.length) : rd (l.set i v) j = if j = i then v else rd l j := by
  obtain ⟨n, rfl⟩ := Int.eq_ofNat_of_zero_le hj
  rw [rd_set l i n v h]
  by_cases e : n = i
  · simp [e]
  · rw [if_neg e, if_neg (by omega)]
theorem Held.step {L P D l u : List Int} {b : Int} (J : JobsP L P D) (H : Held L l u b) (s : Int) (i : Nat) (hi : i < L.length) :
    let l' := if Int.tmod s (rd P i) = 0 then l.set i (rd L i) else l
    let u' := if Int.tmod s (rd P i) = 0 then u.set i (s + rd D i) else u
    let b' := if 0 < rd l' i ∧ (b = -1 ∨ rd u' i < rd u' b) then (i : Int) else b
    Held L l' u' b' := by
  intro l' u' b'
  have hl' : l'.length = L.length := by show (if _ then _ else _ : List Int).length = _; split <;> simp [H.hl]
  have hu' : u'.length = L.length := by show (if _ then _ else _ : List Int).length = _; split <;> simp [H.hu]
  have hrd : ∀ j : Int, 0 ≤ j → rd l' j = if Int.tmod s (rd P i) = 0 ∧ j = i then rd L i else rd l j := by
    intro j hj
    show rd (if _ then _ else _) j = _
    by_cases c : Int.tmod s (rd P i) = 0
    · rw [if_pos c, rd_set' l i j _ hj (by rw [H.hl]; exact hi)]
      by_cases e : j = i
      · simp [e, c]
      · simp [e]
    · simp [c]
  have hJ := (J.each i hi).1
  refine ⟨hl', hu', fun j hj => ?_, ?_⟩
  · rw [hrd j (by omega)]
    split
    · omega
    · exact H.bnd j hj
  · show (if _ then _ else _) = (-1 : Int) ∨ _
    by_cases c : 0 < rd l' i ∧ (b = -1 ∨ rd u' i < rd u' b)
    · have e : b' = i := if_pos c
      refine .inr ?_
      rw [e]
      exact ⟨by omega, by omega, c.1⟩
    · have e : b' = b := if_neg c
      rw [e]
      rcases H.best with h | ⟨h1, h2, h3⟩
      · exact .inl (by rw [if_neg c]; exact h)
      · refine .inr ⟨h1, h2, ?_⟩
        rw [hrd b h1]
        split
        · omega
        · exact h3
theorem Held.pick {L P D : List Int} (J : JobsP L P D) (s : Int) : ∀ (d i : Nat) (l u : List Int) (b : Int), i + d = L.length → Held L l u b →
    Held L (pickE L P D s d i l u b).1 (pickE L P D s d i l u b).2.1 (pickE L P D s d i l u b).2.2 := by
  intro d
  induction d with
  | zero => intro i l u b _ H; exact H
  | succ d ih => intro i l u b hd H; exact ih (i + 1) _ _ _ (by omega) (H.step J s i (by omega))
theorem Held.serve {L l u : List Int} {b : Int} (H : Held L l u b) : Held L (served l b) u (-1) := by
  unfold served
  by_cases h : b = -1
  · rw [if_pos h]
    exact ⟨H.hl, H.hu, H.bnd, .inl rfl⟩
  · rw [if_neg h]
    rcases H.best with h1 | ⟨h1, h2, h3⟩
    · exact absurd h1 h
    · refine ⟨by simp [H.hl], H.hu, fun i hi => ?_, .inl rfl⟩
      have hb := H.bnd b.toNat (by omega)
      rw [Int.toNat_of_nonneg h1] at hb
      rw [rd_set l b.toNat i _ (by rw [H.hl]; omega)]
      split
      · omega
      · exact H.bnd i hi
theorem Held.zero (L : List Int) : Held L (List.replicate L.length 0) (List.replicate L.length 0) (-1) := by
  refine ⟨by simp, by simp, fun i hi => ?_, .inl rfl⟩
  rw [rd_replicate0]
  omega

theorem specPick_ev {L P D : List Int} (J : JobsP L P D) (H0 s : Int) (hs0 : 0 ≤ s) (hs : s ≤ 240) (out : List Int) (hout : out.length ≤ 240) (r : List Int × Int × Int) : ∀ (d i : Nat) (l u : List Int) (b : Int), i + d = L.length → Held L l u b →
    Ev (fun k => spec_l04Slots.l0 k H0 (out ++ [(pickE L P D s d i l u b).2.2]) (served (pickE L P D s d i l u b).1 (pickE L P D s d i l u b).2.2) (pickE L P D s d i l u b).2.1 (s + 1) L P D) r →
    Ev (fun k => spec_l04Slots.l2 k H0 out l u s b i L P D) r := by
  have hn := J.n8
  intro d
  induction d with
  | zero =>
    intro i l u b hd H hk
    refine ev_succ ?_
    simp only [spec_l04Slots.l2]
    have hl := H.hl
    refine ev_neg (by omega) ?_
    rw [show wrap64 (s + 1) = s + 1 from w64 (by omega) (by omega)]
    rcases H.best with h | ⟨h1, h2, h3⟩
    · refine ev_neg (by omega) (ev_pos (by omega) ?_)
      simpa [pickE, served, h] using hk
    · have hb := H.bnd b.toNat (by omega)
      rw [Int.toNat_of_nonneg h1] at hb
      refine ev_pos (by omega) (ev_pos (by omega) (ev_pos (by omega) (ev_pos (by omega) ?_)))
      rw [show wrap64 (rd l b - 1) = rd l b - 1 from w64 (by omega) (by omega)]
      simpa [pickE, served, show ¬ b = -1 by omega] using hk
  | succ d ih =>
    intro i l u b hd H hk
    have hi : i < L.length := by omega
    have hl := H.hl
    have hu := H.hu
    have hP := J.hP
    have hD := J.hD
    have hE := J.each i hi
    have HS := H.step J s i hi
    refine ev_succ ?_
    simp only [spec_l04Slots.l2]
    rw [show wrap64 ((i : Int) + 1) = ((i + 1 : Nat) : Int) from w64n (by omega), show wrap64 (s + rd D i) = s + rd D i from w64 (by omega) (by omega)]
    refine ev_pos (by omega) (ev_pos (by omega) (ev_pos (by omega) (ev_neg (by omega) ?_)))
    have next := ih (i + 1) _ _ _ (by omega) HS
    rw [pickE] at hk
    replace next := next hk
    clear hk HS
    by_cases c : Int.tmod s (rd P i) = 0
    · simp only [if_pos c] at next
      refine ev_pos c (ev_pos (by omega) (ev_some (ev_pos (by omega) (ev_pos (by omega) (ev_some ?_)))))
      rw [Int.toNat_natCast]
      generalize hl2 : l.set i (rd L i) = l2 at *
      generalize hu2 : u.set i (s + rd D i) = u2 at *
      by_cases c1 : 0 < rd l2 i
      · refine ev_pos c1 ?_
        by_cases c2 : b = -1
        · rw [if_pos ⟨c1, .inl c2⟩] at next
          exact ev_pos (by omega) next
        · have hb := H.best
          refine ev_neg (by omega) (ev_pos (by omega) (ev_pos (by omega) ?_))
          by_cases c3 : rd u2 i < rd u2 b
          · rw [if_pos ⟨c1, .inr c3⟩] at next
            exact ev_pos c3 next
          · rw [if_neg (fun h => h.2.elim c2 c3)] at next
            exact ev_neg c3 next
      · rw [if_neg (fun h => c1 h.1)] at next
        exact ev_neg c1 next
    · simp only [if_neg c] at next
      refine ev_neg c ?_
      by_cases c1 : 0 < rd l i
      · refine ev_pos c1 ?_
        by_cases c2 : b = -1
        · rw [if_pos ⟨c1, .inl c2⟩] at next
          exact ev_pos (by omega) next
        · have hb := H.best
          refine ev_neg (by omega) (ev_pos (by omega) (ev_pos (by omega) (ev_pos (by omega) ?_)))
          by_cases c3 : rd u i < rd u b
          · rw [if_pos ⟨c1, .inr c3⟩] at next
            exact ev_pos c3 next
          · rw [if_neg (fun h => h.2.elim c2 c3)] at next
            exact ev_neg c3 next
      · rw [if_neg (fun h => c1 h.1)] at next
        exact ev_neg c1 next
theorem implPick_ev {L P D : List Int} (J : JobsP L P D) (s : Int) (hs0 : 0 ≤ s) (hs : s ≤ 240) (out : List Int) (hout : out.length ≤ 240) (r : List Int × Int) : ∀ (d i : Nat) (l u : List Int) (b : Int), i + d = L.length → Held L l u b →
    Ev (fun k => impl_Jobs_earliest.l0 k (served (pickE L P D s d i l u b).1 (pickE L P D s d i l u b).2.2) (pickE L P D s d i l u b).2.1 (out ++ [(pickE L P D s d i l u b).2.2]) (s + 1) L P D) r →
    Ev (fun k => impl_Jobs_earliest.l2 k l u out s b P (P.length : Int) i L P D) r := by
  have hn := J.n8
  intro d
  induction d with
  | zero =>
    intro i l u b hd H hk
    refine ev_succ ?_
    simp only [impl_Jobs_earliest.l2]
    have hl := H.hl
    have hP := J.hP
    refine ev_neg (by omega) ?_
    rw [show wrap64 (s + 1) = s + 1 from w64 (by omega) (by omega)]
    rcases H.best with h | ⟨h1, h2, h3⟩
    · refine ev_pos h (ev_pos (by omega) ?_)
      simpa [pickE, served, h] using hk
    · have hb := H.bnd b.toNat (by omega)
      rw [Int.toNat_of_nonneg h1] at hb
      refine ev_neg (by omega) (ev_pos (by omega) (ev_pos (by omega) (ev_pos (by omega) ?_)))
      rw [show wrap64 (rd l b - 1) = rd l b - 1 from w64 (by omega) (by omega)]
      simpa [pickE, served, show ¬ b = -1 by omega] using hk
  | succ d ih =>
    intro i l u b hd H hk
    have hi : i < L.length := by omega
    have hl := H.hl
    have hu := H.hu
    have hP := J.hP
    have hD := J.hD
    have hE := J.each i hi
    have HS := H.step J s i hi
    refine ev_succ ?_
    simp only [impl_Jobs_earliest.l2]
    rw [show wrap64 ((i : Int) + 1) = ((i + 1 : Nat) : Int) from w64n (by omega), show wrap64 (s + rd D i) = s + rd D i from w64 (by omega) (by omega)]
    refine ev_pos (by omega) (ev_pos (by omega) (ev_pos (by omega) (ev_neg (by omega) ?_)))
    have next := ih (i + 1) _ _ _ (by omega) HS
    rw [pickE] at hk
    replace next := next hk
    clear hk HS
    by_cases c : Int.tmod s (rd P i) = 0
    · simp only [if_pos c] at next
      refine ev_pos c (ev_pos (by omega) (ev_pos (by omega) (ev_pos (by omega) (ev_some (ev_pos (by omega) (ev_some ?_))))))
      rw [Int.toNat_natCast]
      generalize hl2 : l.set i (rd L i) = l2 at *
      generalize hu2 : u.set i (s + rd D i) = u2 at *
      by_cases c1 : 0 < rd l2 i
      · refine ev_pos c1 ?_
        by_cases c2 : b = -1
        · rw [if_pos ⟨c1, .inl c2⟩] at next
          exact ev_pos (by omega) next
        · have hb := H.best
          refine ev_neg (by omega) (ev_pos (by omega) (ev_pos (by omega) ?_))
          by_cases c3 : rd u2 i < rd u2 b
          · rw [if_pos ⟨c1, .inr c3⟩] at next
            exact ev_pos c3 next
          · rw [if_neg (fun h => h.2.elim c2 c3)] at next
            exact ev_neg c3 next
      · rw [if_neg (fun h => c1 h.1)] at next
        exact ev_neg c1 next
    · simp only [if_neg c] at next
      refine ev_neg c (ev_pos (by omega) ?_)
      by_cases c1 : 0 < rd l i
      · refine ev_pos c1 ?_
        by_cases c2 : b = -1
        · rw [if_pos ⟨c1, .inl c2⟩] at next
          exact ev_pos (by omega) next
        · have hb := H.best
          refine ev_neg (by omega) (ev_pos (by omega) (ev_pos (by omega) (ev_pos (by omega) ?_)))
          by_cases c3 : rd u i < rd u b
          · rw [if_pos ⟨c1, .inr c3⟩] at next
            exact ev_pos c3 next
          · rw [if_neg (fun h => h.2.elim c2 c3)] at next
            exact ev_neg c3 next
      · rw [if_neg (fun h => c1 h.1)] at next
        exact ev_neg c1 next

theorem specLate_ev {L P D l u : List Int} (J : JobsP L P D) (H : Held L l u (-1)) (H0 s : Int) (hdue : ∀ i : Nat, i < L.length → 0 < rd l i → s ≤ rd u i) (out : List Int) (r : List Int × Int × Int) : ∀ (d i : Nat), i + d = L.length →
    (0 ≤ lateF l u s d i → r = (out, s, lateF l u s d i)) →
    (¬ 0 ≤ lateF l u s d i → Ev (fun k => if s = H0 then some (out, -1, -1) else spec_l04Slots.l2 k H0 out l u s (-1) 0 L P D) r) →
    Ev (fun k => spec_l04Slots.l1 k H0 out l u s i L P D) r := by
  have hn := J.n8
  have hl := H.hl
  have hu := H.hu
  intro d
  induction d with
  | zero =>
    intro i hd h1 h2
    refine ev_succ ?_
    simp only [spec_l04Slots.l1]
    exact ev_neg (by omega) (h2 (by simp [lateF]))
  | succ d ih =>
    intro i hd h1 h2
    refine ev_succ ?_
    simp only [spec_l04Slots.l1]
    refine ev_pos (by omega) (ev_pos (by omega) ?_)
    rw [lateF] at h1 h2
    rw [show wrap64 ((i : Int) + 1) = ((i + 1 : Nat) : Int) from w64n (by omega)]
    by_cases c1 : 0 < rd l i
    · refine ev_pos c1 (ev_pos (by omega) ?_)
      have hd1 := hdue i (by omega) c1
      by_cases c2 : rd u i = s
      · rw [if_pos ⟨c1, by omega⟩] at h1
        exact ev_pos c2 (ev_val (Ev.now _) (h1 (by omega)).symm)
      · rw [if_neg (fun h => c2 (by omega))] at h1 h2
        exact ev_neg c2 (ih (i + 1) (by omega) h1 h2)
    · rw [if_neg (fun h => c1 h.1)] at h1 h2
      exact ev_neg c1 (ih (i + 1) (by omega) h1 h2)
theorem implLate_ev {L P D l u : List Int} (J : JobsP L P D) (H : Held L l u (-1)) (s : Int) (out : List Int) (r : List Int × Int) : ∀ (d i : Nat), i + d = L.length →
    (0 ≤ lateF l u s d i → r = (out, lateF l u s d i)) →
    (¬ 0 ≤ lateF l u s d i → Ev (fun k => (impl_Jobs_whole.f k L P D).bind fun t => if s = t then some (out, -1) else impl_Jobs_earliest.l2 k l u out s (-1) P (P.length : Int) 0 L P D) r) →
    Ev (fun k => impl_Jobs_earliest.l1 k l u out s (l.length : Int) i L P D) r := by
  have hn := J.n8
  have hl := H.hl
  have hu := H.hu
  intro d
  induction d with
  | zero =>
    intro i hd h1 h2
    refine ev_succ ?_
    simp only [impl_Jobs_earliest.l1]
    exact ev_neg (by omega) (h2 (by simp [lateF]))
  | succ d ih =>
    intro i hd h1 h2
    refine ev_succ ?_
    simp only [impl_Jobs_earliest.l1]
    refine ev_pos (by omega) (ev_pos (by omega) (ev_pos (by omega) ?_))
    rw [lateF] at h1 h2
    rw [show wrap64 ((i : Int) + 1) = ((i + 1 : Nat) : Int) from w64n (by omega)]
    by_cases c1 : 0 < rd l i
    · refine ev_pos c1 (ev_pos (by omega) ?_)
      by_cases c2 : rd u i ≤ s
      · rw [if_pos ⟨c1, c2⟩] at h1
        exact ev_pos c2 (ev_val (Ev.now _) (h1 (by omega)).symm)
      · rw [if_neg (fun h => c2 h.2)] at h1 h2
        exact ev_neg c2 (ih (i + 1) (by omega) h1 h2)
    · rw [if_neg (fun h => c1 h.1)] at h1 h2
      exact ev_neg c1 (ih (i + 1) (by omega) h1 h2)
/-- Nothing that is left is due before a slot's end, behind the look for late ones. -/
theorem pick_due {L P D : List Int} (J : JobsP L P D) (s : Int) : ∀ (d i : Nat) (l u : List Int) (b : Int), i + d = L.length → Held L l u b → (∀ j : Nat, j < L.length → 0 < rd l j → s + 1 ≤ rd u j) →
    ∀ j : Nat, j < L.length → 0 < rd (pickE L P D s d i l u b).1 j → s + 1 ≤ rd (pickE L P D s d i l u b).2.1 j := by
  intro d
  induction d with
  | zero => intro i l u b _ _ h; exact h
  | succ d ih =>
    intro i l u b hd H h
    refine ih (i + 1) _ _ _ (by omega) (H.step J s i (by omega)) ?_
    intro j hj hj2
    have hE := J.each i (by omega)
    by_cases c : Int.tmod s (rd P i) = 0
    · rw [if_pos c] at hj2 ⊢
      rw [rd_set _ _ _ _ (by rw [H.hl]; omega)] at hj2
      rw [rd_set _ _ _ _ (by rw [H.hu]; omega)]
      by_cases e : j = i
      · rw [if_pos e]; omega
      · rw [if_neg e] at hj2 ⊢
        exact h j hj hj2
    · rw [if_neg c] at hj2 ⊢
      exact h j hj hj2
theorem served_pos {L l u : List Int} {b : Int} (H : Held L l u b) (j : Nat) (hj : 0 < rd (served l b) j) : 0 < rd l j := by
  unfold served at hj
  split at hj
  · exact hj
  · rename_i h
    rcases H.best with h1 | ⟨h1, h2, h3⟩
    · exact absurd h1 h
    rw [rd_set l b.toNat j _ (by rw [H.hl]; omega)] at hj
    split at hj
    · rename_i e
      subst e
      rw [Int.toNat_of_nonneg h1]
      exact h3
    · exact hj
theorem specSlots_loop {L P D : List Int} (J : JobsP L P D) (H0 : Int) (hH : H0 ≤ 240) : ∀ (d : Nat) (s : Int) (l u out : List Int), s + d = H0 → 0 ≤ s → (out.length : Int) = s → Held L l u (-1) → (∀ i : Nat, i < L.length → 0 < rd l i → s ≤ rd u i) →
    Ev (fun k => spec_l04Slots.l0 k H0 out l u s L P D) ((edf L P D d s l u out).1, (if 0 ≤ (edf L P D d s l u out).2 then ((edf L P D d s l u out).1.length : Int) else -1), (edf L P D d s l u out).2) := by
  intro d
  induction d with
  | zero =>
    intro s l u out hd hs0 ho H hdue
    refine ev_succ ?_
    simp only [spec_l04Slots.l0]
    refine ev_pos (by omega) (specLate_ev J H H0 s hdue out _ L.length 0 (by omega) ?_ ?_)
    · intro h
      have e : edf L P D 0 s l u out = (out, lateF l u s L.length 0) := rfl
      simp only [e, if_pos h, ho]
    · intro h
      refine ev_pos (by omega) (ev_val (Ev.now _) ?_)
      have e : edf L P D 0 s l u out = (out, lateF l u s L.length 0) := rfl
      simp only [e, if_neg h]
      rcases lateF_cases l u s L.length 0 with ⟨h1, _⟩ | ⟨j, h1, _⟩
      · rw [h1]
      · rw [h1] at h; omega
  | succ d ih =>
    intro s l u out hd hs0 ho H hdue
    refine ev_succ ?_
    simp only [spec_l04Slots.l0]
    refine ev_pos (by omega) (specLate_ev J H H0 s hdue out _ L.length 0 (by omega) ?_ ?_)
    · intro h
      have e : edf L P D (d + 1) s l u out = (out, lateF l u s L.length 0) := by rw [edf, if_pos h]
      simp only [e, if_pos h, ho]
    · intro h
      refine ev_neg (by omega) ?_
      have e : edf L P D (d + 1) s l u out = edf L P D d (s + 1) (served (pickE L P D s L.length 0 l u (-1)).1 (pickE L P D s L.length 0 l u (-1)).2.2) (pickE L P D s L.length 0 l u (-1)).2.1 (out ++ [(pickE L P D s L.length 0 l u (-1)).2.2]) := by rw [edf, if_neg h]
      rw [e]
      refine specPick_ev J H0 s hs0 (by omega) out (by omega) _ L.length 0 l u (-1) (by omega) H ?_
      have HP := H.pick J s L.length 0 l u (-1) (by omega)
      have late := lateF_cases l u s L.length 0
      have hno : ∀ j : Nat, j < L.length → 0 < rd l j → s + 1 ≤ rd u j := by
        intro j hj hp
        rcases late with ⟨_, h2⟩ | ⟨i, h1, _⟩
        · have := h2 j (by omega) (by omega)
          omega
        · rw [h1] at h; omega
      refine ih (s + 1) _ _ _ (by omega) (by omega) (by simp; omega) HP.serve ?_
      intro i hi hp
      exact pick_due J s L.length 0 l u (-1) (by omega) H hno i hi (served_pos HP i hp)
theorem implSlots_loop {L P D : List Int} (J : JobsP L P D) (hH : wholeN P ≤ 240) : ∀ (d : Nat) (s : Int) (l u out : List Int), s + d = (wholeN P : Int) → 0 ≤ s → (out.length : Int) = s → Held L l u (-1) →
    Ev (fun k => impl_Jobs_earliest.l0 k l u out s L P D) (edf L P D d s l u out) := by
  intro d
  induction d with
  | zero =>
    intro s l u out hd hs0 ho H
    refine ev_succ ?_
    simp only [impl_Jobs_earliest.l0]
    refine implLate_ev J H s out _ L.length 0 (by omega) ?_ ?_
    · intro h; rfl
    · intro h
      refine Ev.bind (whole_ev J) (ev_pos (by omega) (ev_val (Ev.now _) ?_))
      simp only [edf]
      rcases lateF_cases l u s L.length 0 with ⟨h1, _⟩ | ⟨j, h1, _⟩
      · rw [h1]
      · rw [h1] at h; omega
  | succ d ih =>
    intro s l u out hd hs0 ho H
    refine ev_succ ?_
    simp only [impl_Jobs_earliest.l0]
    refine implLate_ev J H s out _ L.length 0 (by omega) ?_ ?_
    · intro h
      rw [edf, if_pos h]
    · intro h
      refine Ev.bind (whole_ev J) (ev_neg (by omega) ?_)
      rw [edf, if_neg h]
      exact implPick_ev J s hs0 (by omega) out (by omega) _ L.length 0 l u (-1) (by omega) H (ih (s + 1) _ _ _ (by omega) (by omega) (by simp; omega) (H.pick J s L.length 0 l u (-1) (by omega)).serve)
/-- The slots of jobs, and the first late task, or -1. -/
def slotsOf (L P D : List Int) : List Int × Int := edf L P D (wholeN P) 0 (List.replicate L.length 0) (List.replicate L.length 0) []
theorem wholeN_pos {L P D : List Int} (J : JobsP L P D) : 0 < wholeN P := lcms_pos _ 1 (by omega) J.periods.pos
theorem specSlots_ev {L P D : List Int} (J : JobsP L P D) (hH : wholeN P ≤ 240) : Ev (fun k => spec_l04Slots.f k L P D) ((slotsOf L P D).1, (if 0 ≤ (slotsOf L P D).2 then ((slotsOf L P D).1.length : Int) else -1), (slotsOf L P D).2) := by
  have hn := J.n8
  unfold spec_l04Slots.f
  obtain ⟨r, hr, h1, _⟩ := l04Whole_ev J
  obtain rfl := h1 hH
  refine Ev.bind hr (ev_pos (by omega) (ev_pos (by simp; omega) ?_))
  rw [Int.toNat_natCast]
  exact specSlots_loop J (wholeN P : Int) (by omega) (wholeN P) 0 _ _ [] (by omega) (by omega) rfl (Held.zero L) (fun i hi h => by rw [rd_replicate0] at h; omega)
theorem implSlots_ev {L P D : List Int} (J : JobsP L P D) (hH : wholeN P ≤ 240) : Ev (fun k => impl_Jobs_earliest.f k L P D) (slotsOf L P D) := by
  have hn := J.n8
  unfold impl_Jobs_earliest.f
  refine ev_bnd (many_some L P D) (ev_pos (by omega) (ev_pos (by simp; omega) (ev_bnd (many_some L P D) (ev_pos (by omega) (ev_pos (by simp; omega) ?_)))))
  rw [Int.toNat_natCast]
  exact implSlots_loop J hH (wholeN P) 0 _ _ [] (by omega) (by omega) rfl (Held.zero L)
theorem edf_length (L P D : List Int) : ∀ (d : Nat) (s : Int) (l u out : List Int), (edf L P D d s l u out).1.length ≤ out.length + d ∧ ((edf L P D d s l u out).2 < 0 → (edf L P D d s l u out).1.length = out.length + d) := by
  intro d
  induction d with
  | zero => intro s l u out; simp [edf]
  | succ d ih =>
    intro s l u out
    rw [edf]
    split
    · rename_i h
      exact ⟨by simp, fun h2 => absurd h (by simp at h2; omega)⟩
    · have := ih (s + 1) (served (pickE L P D s L.length 0 l u (-1)).1 (pickE L P D s L.length 0 l u (-1)).2.2) (pickE L P D s L.length 0 l u (-1)).2.1 (out ++ [(pickE L P D s L.length 0 l u (-1)).2.2])
      rw [List.length_append, List.length_singleton] at this
      exact ⟨by omega, fun h => by have := this.2 h; omega⟩
theorem slotsOf_length (L P D : List Int) : (slotsOf L P D).1.length ≤ wholeN P := by
  have := (edf_length L P D (wholeN P) 0 (List.replicate L.length 0) (List.replicate L.length 0) []).1
  simpa [slotsOf] using this
def deadlineOut (L P D : List Int) : List Int × Int := if codeJ L P D = 0 then ((slotsOf L P D).1, 0) else ([], codeJ L P D)
theorem deadlineOut_length (L P D : List Int) : (deadlineOut L P D).1.length ≤ 240 := by
  unfold deadlineOut
  split
  · rename_i h
    exact Nat.le_trans (slotsOf_length L P D) (codeJ_zero h).2
  · simp
end Go.Proofs.Ytmgdobiloapelaa.Bb
