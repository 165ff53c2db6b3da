/- Slots by earliest deadlines: one model for the program and the reference. -/
import Derived.Test.YtmgdobiloapelaaQJobW
set_option linter.unusedVariables false
set_option linter.unusedSimpArgs false
namespace Go.Proofs.Ytmgdobiloapelaa.Vf
open Go Go.V Go.RowKit

theorem rdSet {l : List Int} {i j : Nat} {x : Int} (h : i < l.length) : rd (l.set i x) (j : Int) = if j = i then x else rd l (j : Int) := by
  rw [rd_nat, rd_nat, List.getD_eq_getElem?_getD, List.getD_eq_getElem?_getD, List.getElem?_set]
  by_cases e : i = j
  · subst e
    simp [h]
  · rw [if_neg e, if_neg (fun h => e h.symm)]
theorem rdSet' {l : List Int} {i : Nat} {j v : Int} (hj : 0 ≤ j) (h : i < l.length) : rd (l.set i v) j = if j = i then v else rd l j := by
  obtain ⟨n, rfl⟩ := Int.eq_ofNat_of_zero_le hj
  rw [rdSet h]
  by_cases e : n = i
  · simp [e]
  · rw [if_neg e, if_neg (by omega)]
theorem rdZero (n i : Nat) : rd (List.replicate n (0 : Int)) (i : Int) = 0 := by
  rw [rd_nat, List.getD_eq_getElem?_getD, List.getElem?_replicate]
  split <;> rfl

/-- The first one that is late, or -1. -/
def lateF (l u : List Int) (s : Int) : Nat → Nat → Int
  | 0, _ => -1
  | d + 1, i => if 0 < rd l i ∧ rd u i ≤ s then (i : Int) else lateF l u s d (i + 1)
/-- What is left, what is due, and whose turn it is, behind a slot's releases. -/
def pickE (L P D : List Int) (s : Int) : Nat → Nat → List Int → List Int → Int → List Int × List Int × Int
  | 0, _, l, u, b => (l, u, b)
  | d + 1, i, l, u, b =>
    let l' := if Int.tmod s (rd P i) = 0 then l.set i (rd L i) else l
    let u' := if Int.tmod s (rd P i) = 0 then u.set i (s + rd D i) else u
    let b' := if 0 < rd l' i ∧ (b = -1 ∨ rd u' i < rd u' b) then (i : Int) else b
    pickE L P D s d (i + 1) l' u' b'
def served (l : List Int) (b : Int) : List Int := if b = -1 then l else l.set b.toNat (rd l b - 1)
theorem served_no {l : List Int} {b : Int} (h : b = -1) : served l b = l := by unfold served; exact if_pos h
theorem served_yes {l : List Int} {b : Int} (h : ¬ b = -1) : served l b = l.set b.toNat (rd l b - 1) := by unfold served; exact if_neg h
/-- The slots from one on, d of them, and the first late task, or -1. -/
def edf (L P D : List Int) : Nat → Int → List Int → List Int → List Int → List Int × Int
  | 0, s, l, u, out => (out, lateF l u s L.length 0)
  | d + 1, s, l, u, out =>
    if 0 ≤ lateF l u s L.length 0 then (out, lateF l u s L.length 0)
    else
      edf L P D d (s + 1) (served (pickE L P D s L.length 0 l u (-1)).1 (pickE L P D s L.length 0 l u (-1)).2.2) (pickE L P D s L.length 0 l u (-1)).2.1 (out ++ [(pickE L P D s L.length 0 l u (-1)).2.2])
theorem lateF_cases (l u : List Int) (s : Int) : ∀ (d i : Nat), lateF l u s d i = -1 ∧ (∀ j : Nat, i ≤ j → j < i + d → ¬ (0 < rd l j ∧ rd u j ≤ s)) ∨ ∃ j : Nat, lateF l u s d i = j ∧ i ≤ j ∧ j < i + d ∧ 0 < rd l j ∧ rd u j ≤ s := by
  intro d
  induction d with
  | zero => intro i; exact .inl ⟨rfl, fun j h1 h2 => by omega⟩
  | succ d ih =>
    intro i
    unfold lateF
    by_cases h : 0 < rd l i ∧ rd u i ≤ s
    · rw [if_pos h]
      exact .inr ⟨i, rfl, Nat.le_refl _, by omega, h⟩
    · rw [if_neg h]
      rcases ih (i + 1) with ⟨h1, h2⟩ | ⟨j, h1, h2, h3, h4⟩
      · refine .inl ⟨h1, fun j hj hj2 => ?_⟩
        rcases Nat.eq_or_lt_of_le hj with rfl | hlt
        · exact h
        · exact h2 j hlt (by omega)
      · exact .inr ⟨j, h1, by omega, by omega, h4⟩
/-- What holds from slot to slot. -/
structure HeldJ (L : List Int) (l u : List Int) (b : Int) : Prop where
  hl : l.length = L.length
  hu : u.length = L.length
  bnd : ∀ i : Nat, i < L.length → 0 ≤ rd l i ∧ rd l i ≤ 20
  best : b = -1 ∨ 0 ≤ b ∧ b < L.length ∧ 0 < rd l b
theorem HeldJ.step {L P D l u : List Int} {b : Int} (J : JobsP L P D) (H : HeldJ L l u b) (s : Int) (i : Nat) (hi : i < L.length) :
    let l' := if Int.tmod s (rd P i) = 0 then l.set i (rd L i) else l
    let u' := if Int.tmod s (rd P i) = 0 then u.set i (s + rd D i) else u
    let b' := if 0 < rd l' i ∧ (b = -1 ∨ rd u' i < rd u' b) then (i : Int) else b
    HeldJ L l' u' b' := by
  intro l' u' b'
  have hl' : l'.length = L.length := by show (if _ then _ else _ : List Int).length = _; split <;> simp [H.hl]
  have hu' : u'.length = L.length := by show (if _ then _ else _ : List Int).length = _; split <;> simp [H.hu]
  have hrd : ∀ j : Int, 0 ≤ j → rd l' j = if Int.tmod s (rd P i) = 0 ∧ j = i then rd L i else rd l j := by
    intro j hj
    show rd (if _ then _ else _) j = _
    by_cases c : Int.tmod s (rd P i) = 0
    · rw [if_pos c, rdSet' hj (by rw [H.hl]; exact hi)]
      by_cases e : j = i
      · simp [e, c]
      · simp [e]
    · simp [c]
  have hJ := (J.each i hi).1
  refine ⟨hl', hu', fun j hj => ?_, ?_⟩
  · rw [hrd j (by omega)]
    split
    · omega
    · exact H.bnd j hj
  · show (if _ then _ else _) = (-1 : Int) ∨ _
    by_cases c : 0 < rd l' i ∧ (b = -1 ∨ rd u' i < rd u' b)
    · have e : b' = i := if_pos c
      refine .inr ?_
      rw [e]
      exact ⟨by omega, by omega, c.1⟩
    · have e : b' = b := if_neg c
      rw [e]
      rcases H.best with h | ⟨h1, h2, h3⟩
      · exact .inl (by rw [if_neg c]; exact h)
      · refine .inr ⟨h1, h2, ?_⟩
        rw [hrd b h1]
        split
        · omega
        · exact h3
theorem HeldJ.pick {L P D : List Int} (J : JobsP L P D) (s : Int) : ∀ (d i : Nat) (l u : List Int) (b : Int), i + d = L.length → HeldJ L l u b →
    HeldJ L (pickE L P D s d i l u b).1 (pickE L P D s d i l u b).2.1 (pickE L P D s d i l u b).2.2 := by
  intro d
  induction d with
  | zero => intro i l u b _ H; exact H
  | succ d ih => intro i l u b hd H; exact ih (i + 1) _ _ _ (by omega) (H.step J s i (by omega))
theorem HeldJ.serve {L l u : List Int} {b : Int} (H : HeldJ L l u b) : HeldJ L (served l b) u (-1) := by
  unfold served
  by_cases h : b = -1
  · rw [if_pos h]
    exact ⟨H.hl, H.hu, H.bnd, .inl rfl⟩
  · rw [if_neg h]
    rcases H.best with h1 | ⟨h1, h2, h3⟩
    · exact absurd h1 h
    · refine ⟨by simp [H.hl], H.hu, fun i hi => ?_, .inl rfl⟩
      have hb := H.bnd b.toNat (by omega)
      rw [Int.toNat_of_nonneg h1] at hb
      rw [rdSet (by rw [H.hl]; omega)]
      split
      · omega
      · exact H.bnd i hi
theorem HeldJ.zero (L : List Int) : HeldJ L (List.replicate L.length 0) (List.replicate L.length 0) (-1) := by
  refine ⟨by simp, by simp, fun i hi => ?_, .inl rfl⟩
  rw [rdZero]
  omega

theorem specPick {k : Nat} {L P D : List Int} (J : JobsP L P D) (H0 s : Int) (hs0 : 0 ≤ s) (hs : s ≤ 240) (out : List Int) (hout : out.length ≤ 240) {r0 : (List Int) → (List Int) → (List Int) → Int → (List Int) → (List Int) → (List Int) → Int → Option ((List Int) × Int × Int)} : ∀ (d i n : Nat) (l u : List Int) (b : Int), i + d = L.length → d < n → HeldJ L l u b →
    spec_l04Slots.l2 k r0 n L P D H0 out l u s b i = r0 L P D H0 (out ++ [(pickE L P D s d i l u b).2.2]) (served (pickE L P D s d i l u b).1 (pickE L P D s d i l u b).2.2) (pickE L P D s d i l u b).2.1 (s + 1) := by
  have hnn := J.n8
  intro d
  induction d with
  | zero =>
    intro i n l u b hd hn H
    cases n with
    | zero => omega
    | succ n =>
      have hl := H.hl
      show _ = r0 L P D H0 (out ++ [b]) (served l b) u (s + 1)
      simp only [spec_l04Slots.l2, spec_l04Slots.s2]
      rw [if_neg (by omega), w64 (x := s + 1) (by omega) (by omega)]
      rcases H.best with h | ⟨h1, h2, h3⟩
      · rw [if_neg (by omega), if_pos (by omega), served_no h]
      · have hb := H.bnd b.toNat (by omega)
        rw [Int.toNat_of_nonneg h1] at hb
        rw [if_pos (by omega), if_pos (by omega), if_pos (by omega), if_pos (by omega), if_pos (by omega), if_pos (by omega), w64 (x := rd l b - 1) (by omega) (by omega), served_yes (show ¬ b = -1 by omega)]
  | succ d ih =>
    intro i n l u b hd hn H
    cases n with
    | zero => omega
    | succ n =>
      have hi : i < L.length := by omega
      have hl := H.hl
      have hu := H.hu
      have hP := J.hP
      have hD := J.hD
      have hE := J.each i hi
      have HS := H.step J s i hi
      refine Eq.trans ?_ (ih (i + 1) n _ _ _ (by omega) (by omega) HS)
      clear HS ih
      simp only [spec_l04Slots.l2, spec_l04Slots.s2]
      rw [w64n (by omega), w64 (x := s + rd D i) (by omega) (by omega), if_pos (by omega), if_pos (by omega), if_pos (by omega), if_neg (by omega)]
      by_cases c : Int.tmod s (rd P i) = 0
      · simp only [if_pos c, Int.toNat_natCast, List.length_set]
        generalize hl2 : l.set i (rd L i) = l2
        generalize hu2 : u.set i (s + rd D i) = u2
        rw [if_pos (by omega), if_pos (by omega), if_pos (by omega), if_pos (by omega), if_pos (by omega), if_pos (by omega), if_pos (by omega), if_pos (by omega), if_pos (by omega), if_pos (by omega)]
        by_cases c1 : 0 < rd l2 i
        · rw [if_pos c1]
          by_cases c2 : b = -1
          · rw [if_pos (show b < 0 by omega), if_pos (show 0 < rd l2 i ∧ (b = -1 ∨ rd u2 i < rd u2 b) from ⟨c1, .inl c2⟩)]
          · have hb := H.best
            rw [if_neg (show ¬ b < 0 by omega), if_pos (by omega), if_pos (by omega), if_pos (by omega), if_pos (by omega)]
            by_cases c3 : rd u2 i < rd u2 b
            · rw [if_pos c3, if_pos (show 0 < rd l2 i ∧ (b = -1 ∨ rd u2 i < rd u2 b) from ⟨c1, .inr c3⟩)]
            · rw [if_neg c3, if_neg (show ¬ (0 < rd l2 i ∧ (b = -1 ∨ rd u2 i < rd u2 b)) from fun h => h.2.elim c2 c3)]
        · rw [if_neg c1, if_neg (show ¬ (0 < rd l2 i ∧ (b = -1 ∨ rd u2 i < rd u2 b)) from fun h => c1 h.1)]
      · simp only [if_neg c]
        rw [if_pos (by omega), if_pos (by omega)]
        by_cases c1 : 0 < rd l i
        · rw [if_pos c1]
          by_cases c2 : b = -1
          · rw [if_pos (show b < 0 by omega), if_pos (show 0 < rd l i ∧ (b = -1 ∨ rd u i < rd u b) from ⟨c1, .inl c2⟩)]
          · have hb := H.best
            rw [if_neg (show ¬ b < 0 by omega), if_pos (by omega), if_pos (by omega), if_pos (by omega), if_pos (by omega)]
            by_cases c3 : rd u i < rd u b
            · rw [if_pos c3, if_pos (show 0 < rd l i ∧ (b = -1 ∨ rd u i < rd u b) from ⟨c1, .inr c3⟩)]
            · rw [if_neg c3, if_neg (show ¬ (0 < rd l i ∧ (b = -1 ∨ rd u i < rd u b)) from fun h => h.2.elim c2 c3)]
        · rw [if_neg c1, if_neg (show ¬ (0 < rd l i ∧ (b = -1 ∨ rd u i < rd u b)) from fun h => c1 h.1)]

theorem implPick {k : Nat} {L P D : List Int} (J : JobsP L P D) (s : Int) (hs0 : 0 ≤ s) (hs : s ≤ 240) (out : List Int) (hout : out.length ≤ 240) {r0 : (List Int) → (List Int) → (List Int) → (List Int) → (List Int) → (List Int) → Int → Option ((List Int) × Int)} : ∀ (d i n : Nat) (l u : List Int) (b : Int), i + d = L.length → d < n → HeldJ L l u b →
    impl_Jobs_earliest.l2 k r0 n L P D l u out s b P (P.length : Int) i = r0 L P D (served (pickE L P D s d i l u b).1 (pickE L P D s d i l u b).2.2) (pickE L P D s d i l u b).2.1 (out ++ [(pickE L P D s d i l u b).2.2]) (s + 1) := by
  have hnn := J.n8
  intro d
  induction d with
  | zero =>
    intro i n l u b hd hn H
    cases n with
    | zero => omega
    | succ n =>
      have hl := H.hl
      have hP := J.hP
      show _ = r0 L P D (served l b) u (out ++ [b]) (s + 1)
      simp only [impl_Jobs_earliest.l2, impl_Jobs_earliest.s2]
      rw [if_neg (by omega), w64 (x := s + 1) (by omega) (by omega)]
      rcases H.best with h | ⟨h1, h2, h3⟩
      · rw [if_pos h, if_pos (by omega), served_no h]
      · have hb := H.bnd b.toNat (by omega)
        rw [Int.toNat_of_nonneg h1] at hb
        rw [if_neg (show ¬ b = -1 by omega), if_pos (by omega), if_pos (by omega), if_pos (by omega), if_pos (by omega), if_pos (by omega), w64 (x := rd l b - 1) (by omega) (by omega), served_yes (show ¬ b = -1 by omega)]
  | succ d ih =>
    intro i n l u b hd hn H
    cases n with
    | zero => omega
    | succ n =>
      have hi : i < L.length := by omega
      have hl := H.hl
      have hu := H.hu
      have hP := J.hP
      have hD := J.hD
      have hE := J.each i hi
      have HS := H.step J s i hi
      refine Eq.trans ?_ (ih (i + 1) n _ _ _ (by omega) (by omega) HS)
      clear HS ih
      simp only [impl_Jobs_earliest.l2, impl_Jobs_earliest.s2]
      rw [w64n (by omega), w64 (x := s + rd D i) (by omega) (by omega), if_pos (by omega), if_pos (by omega), if_pos (by omega), if_neg (by omega)]
      by_cases c : Int.tmod s (rd P i) = 0
      · simp only [if_pos c, Int.toNat_natCast, List.length_set]
        generalize hl2 : l.set i (rd L i) = l2
        generalize hu2 : u.set i (s + rd D i) = u2
        rw [if_pos (by omega), if_pos (by omega), if_pos (by omega), if_pos (by omega), if_pos (by omega), if_pos (by omega), if_pos (by omega), if_pos (by omega), if_pos (by omega), if_pos (by omega)]
        by_cases c1 : 0 < rd l2 i
        · rw [if_pos c1]
          by_cases c2 : b = -1
          · rw [if_pos c2, if_pos (show 0 < rd l2 i ∧ (b = -1 ∨ rd u2 i < rd u2 b) from ⟨c1, .inl c2⟩)]
          · have hb := H.best
            rw [if_neg c2, if_pos (by omega), if_pos (by omega), if_pos (by omega), if_pos (by omega)]
            by_cases c3 : rd u2 i < rd u2 b
            · rw [if_pos c3, if_pos (show 0 < rd l2 i ∧ (b = -1 ∨ rd u2 i < rd u2 b) from ⟨c1, .inr c3⟩)]
            · rw [if_neg c3, if_neg (show ¬ (0 < rd l2 i ∧ (b = -1 ∨ rd u2 i < rd u2 b)) from fun h => h.2.elim c2 c3)]
        · rw [if_neg c1, if_neg (show ¬ (0 < rd l2 i ∧ (b = -1 ∨ rd u2 i < rd u2 b)) from fun h => c1 h.1)]
      · simp only [if_neg c]
        rw [if_pos (by omega), if_pos (by omega)]
        by_cases c1 : 0 < rd l i
        · rw [if_pos c1]
          by_cases c2 : b = -1
          · rw [if_pos c2, if_pos (show 0 < rd l i ∧ (b = -1 ∨ rd u i < rd u b) from ⟨c1, .inl c2⟩)]
          · have hb := H.best
            rw [if_neg c2, if_pos (by omega), if_pos (by omega), if_pos (by omega), if_pos (by omega)]
            by_cases c3 : rd u i < rd u b
            · rw [if_pos c3, if_pos (show 0 < rd l i ∧ (b = -1 ∨ rd u i < rd u b) from ⟨c1, .inr c3⟩)]
            · rw [if_neg c3, if_neg (show ¬ (0 < rd l i ∧ (b = -1 ∨ rd u i < rd u b)) from fun h => h.2.elim c2 c3)]
        · rw [if_neg c1, if_neg (show ¬ (0 < rd l i ∧ (b = -1 ∨ rd u i < rd u b)) from fun h => c1 h.1)]

theorem specLate {k : Nat} {L P D l u : List Int} (J : JobsP L P D) (H : HeldJ L l u (-1)) (H0 s : Int) (hdue : ∀ i : Nat, i < L.length → 0 < rd l i → s ≤ rd u i) (out : List Int) {r0 : (List Int) → (List Int) → (List Int) → Int → (List Int) → (List Int) → (List Int) → Int → Option ((List Int) × Int × Int)} : ∀ (d i n : Nat), i + d = L.length → d < n →
    spec_l04Slots.l1 k r0 n L P D H0 out l u s i = if 0 ≤ lateF l u s d i then some (out, s, lateF l u s d i) else if s = H0 then some (out, -1, -1) else spec_l04Slots.l2 k r0 k L P D H0 out l u s (-1) 0 := by
  have hnn := J.n8
  have hl := H.hl
  have hu := H.hu
  intro d
  induction d with
  | zero =>
    intro i n hd hn
    cases n with
    | zero => omega
    | succ n =>
      have e : lateF l u s 0 i = -1 := rfl
      simp only [spec_l04Slots.l1, spec_l04Slots.s1]
      rw [e, if_neg (by omega), if_neg (show ¬ (0 : Int) ≤ -1 by omega)]
  | succ d ih =>
    intro i n hd hn
    cases n with
    | zero => omega
    | succ n =>
      have e : lateF l u s (d + 1) i = if 0 < rd l i ∧ rd u i ≤ s then (i : Int) else lateF l u s d (i + 1) := rfl
      simp only [spec_l04Slots.l1, spec_l04Slots.s1]
      rw [e, if_pos (by omega), if_pos (by omega), if_pos (by omega), w64n (by omega), ih (i + 1) n (by omega) (by omega)]
      by_cases c1 : 0 < rd l i
      · have hd1 := hdue i (by omega) c1
        rw [if_pos c1, if_pos (by omega), if_pos (by omega)]
        by_cases c2 : rd u i = s
        · rw [if_pos c2, if_pos (show 0 < rd l i ∧ rd u i ≤ s from ⟨c1, by omega⟩), if_pos (by omega)]
        · rw [if_neg c2, if_neg (show ¬ (0 < rd l i ∧ rd u i ≤ s) from fun h => c2 (by omega))]
      · rw [if_neg c1, if_neg (show ¬ (0 < rd l i ∧ rd u i ≤ s) from fun h => c1 h.1)]

theorem implLate {k : Nat} (hk : 2097152 ≤ k) {L P D l u : List Int} (J : JobsP L P D) (H : HeldJ L l u (-1)) (s : Int) (out : List Int) {r0 : (List Int) → (List Int) → (List Int) → (List Int) → (List Int) → (List Int) → Int → Option ((List Int) × Int)} : ∀ (d i n : Nat), i + d = L.length → d < n →
    impl_Jobs_earliest.l1 k r0 n L P D l u out s (l.length : Int) i = if 0 ≤ lateF l u s d i then some (out, lateF l u s d i) else if s = (wholeN P : Int) then some (out, -1) else impl_Jobs_earliest.l2 k r0 k L P D l u out s (-1) P (P.length : Int) 0 := by
  have hnn := J.n8
  have hl := H.hl
  have hu := H.hu
  intro d
  induction d with
  | zero =>
    intro i n hd hn
    cases n with
    | zero => omega
    | succ n =>
      have e : lateF l u s 0 i = -1 := rfl
      simp only [impl_Jobs_earliest.l1, impl_Jobs_earliest.s1]
      rw [e, if_neg (by omega), if_neg (show ¬ (0 : Int) ≤ -1 by omega), whole_f hk J, Option.bind_some]
  | succ d ih =>
    intro i n hd hn
    cases n with
    | zero => omega
    | succ n =>
      have e : lateF l u s (d + 1) i = if 0 < rd l i ∧ rd u i ≤ s then (i : Int) else lateF l u s d (i + 1) := rfl
      simp only [impl_Jobs_earliest.l1, impl_Jobs_earliest.s1]
      rw [e, if_pos (by omega), if_pos (by omega), if_pos (by omega), w64n (by omega), ih (i + 1) n (by omega) (by omega)]
      by_cases c1 : 0 < rd l i
      · rw [if_pos c1, if_pos (by omega), if_pos (by omega)]
        by_cases c2 : rd u i ≤ s
        · rw [if_pos c2, if_pos (show 0 < rd l i ∧ rd u i ≤ s from ⟨c1, c2⟩), if_pos (by omega)]
        · rw [if_neg c2, if_neg (show ¬ (0 < rd l i ∧ rd u i ≤ s) from fun h => c2 h.2)]
      · rw [if_neg c1, if_neg (show ¬ (0 < rd l i ∧ rd u i ≤ s) from fun h => c1 h.1)]

/-- Nothing that is left is due before a slot's end, behind the look for late ones. -/
theorem pick_due {L P D : List Int} (J : JobsP L P D) (s : Int) : ∀ (d i : Nat) (l u : List Int) (b : Int), i + d = L.length → HeldJ L l u b → (∀ j : Nat, j < L.length → 0 < rd l j → s + 1 ≤ rd u j) →
    ∀ j : Nat, j < L.length → 0 < rd (pickE L P D s d i l u b).1 j → s + 1 ≤ rd (pickE L P D s d i l u b).2.1 j := by
  intro d
  induction d with
  | zero => intro i l u b _ _ h; exact h
  | succ d ih =>
    intro i l u b hd H h
    refine ih (i + 1) _ _ _ (by omega) (H.step J s i (by omega)) ?_
    intro j hj hj2
    have hE := J.each i (by omega)
    by_cases c : Int.tmod s (rd P i) = 0
    · rw [if_pos c] at hj2 ⊢
      rw [rdSet (by rw [H.hl]; omega)] at hj2
      rw [rdSet (by rw [H.hu]; omega)]
      by_cases e : j = i
      · rw [if_pos e]; omega
      · rw [if_neg e] at hj2 ⊢
        exact h j hj hj2
    · rw [if_neg c] at hj2 ⊢
      exact h j hj hj2
theorem served_pos {L l u : List Int} {b : Int} (H : HeldJ L l u b) (j : Nat) (hj : 0 < rd (served l b) j) : 0 < rd l j := by
  unfold served at hj
  split at hj
  · exact hj
  · rename_i h
    rcases H.best with h1 | ⟨h1, h2, h3⟩
    · exact absurd h1 h
    rw [rdSet (by rw [H.hl]; omega)] at hj
    split at hj
    · rename_i e
      subst e
      rw [Int.toNat_of_nonneg h1]
      exact h3
    · exact hj

def resS (r : List Int × Int) : Option (List Int × Int × Int) := some (r.1, (if 0 ≤ r.2 then (r.1.length : Int) else -1), (if 0 ≤ r.2 then r.2 else -1))
def resI (r : List Int × Int) : Option (List Int × Int) := some (r.1, (if 0 ≤ r.2 then r.2 else -1))
theorem resS_late {out : List Int} {x : Int} (h : 0 ≤ x) : resS (out, x) = some (out, (out.length : Int), x) := by unfold resS; rw [if_pos h, if_pos h]
theorem resS_ok {out : List Int} {x : Int} (h : ¬ 0 ≤ x) : resS (out, x) = some (out, -1, -1) := by unfold resS; rw [if_neg h, if_neg h]
theorem resI_late {out : List Int} {x : Int} (h : 0 ≤ x) : resI (out, x) = some (out, x) := by unfold resI; rw [if_pos h]
theorem resI_ok {out : List Int} {x : Int} (h : ¬ 0 ≤ x) : resI (out, x) = some (out, -1) := by unfold resI; rw [if_neg h]
theorem edf_zero (L P D : List Int) (s : Int) (l u out : List Int) : edf L P D 0 s l u out = (out, lateF l u s L.length 0) := rfl
theorem edf_late {L P D : List Int} {d : Nat} {s : Int} {l u out : List Int} (h : 0 ≤ lateF l u s L.length 0) : edf L P D (d + 1) s l u out = (out, lateF l u s L.length 0) := if_pos h
theorem edf_next {L P D : List Int} {d : Nat} {s : Int} {l u out : List Int} (h : ¬ 0 ≤ lateF l u s L.length 0) : edf L P D (d + 1) s l u out = edf L P D d (s + 1) (served (pickE L P D s L.length 0 l u (-1)).1 (pickE L P D s L.length 0 l u (-1)).2.2) (pickE L P D s L.length 0 l u (-1)).2.1 (out ++ [(pickE L P D s L.length 0 l u (-1)).2.2]) := if_neg h

theorem specSlots_loop {k : Nat} (hk : 2097152 ≤ k) {L P D : List Int} (J : JobsP L P D) (H0 : Int) (hH : H0 ≤ 240) : ∀ (d : Nat) (s : Int) (l u out : List Int) (n : Nat), s + d = H0 → 0 ≤ s → (out.length : Int) = s → HeldJ L l u (-1) → (∀ i : Nat, i < L.length → 0 < rd l i → s ≤ rd u i) → d < n →
    spec_l04Slots.l0 k n L P D H0 out l u s = resS (edf L P D d s l u out) := by
  have hnn := J.n8
  intro d
  induction d with
  | zero =>
    intro s l u out n hd hs0 ho H hdue hn
    cases n with
    | zero => omega
    | succ n =>
      simp only [spec_l04Slots.l0, spec_l04Slots.s0]
      rw [if_pos (by omega)]
      have := specLate (k := k) J H H0 s hdue out (r0 := spec_l04Slots.l0 k n) L.length 0 k (by omega) (by omega)
      rw [show ((0 : Nat) : Int) = 0 from rfl] at this
      rw [this]
      by_cases h : 0 ≤ lateF l u s L.length 0
      · rw [edf_zero, resS_late h, if_pos h, ho]
      · rw [edf_zero, resS_ok h, if_neg h, if_pos (by omega)]
  | succ d ih =>
    intro s l u out n hd hs0 ho H hdue hn
    cases n with
    | zero => omega
    | succ n =>
      simp only [spec_l04Slots.l0, spec_l04Slots.s0]
      rw [if_pos (by omega)]
      have := specLate (k := k) J H H0 s hdue out (r0 := spec_l04Slots.l0 k n) L.length 0 k (by omega) (by omega)
      rw [show ((0 : Nat) : Int) = 0 from rfl] at this
      rw [this]
      by_cases h : 0 ≤ lateF l u s L.length 0
      · rw [edf_late h, resS_late h, if_pos h, ho]
      · rw [edf_next h, if_neg h, if_neg (by omega)]
        have hp := specPick (k := k) J H0 s hs0 (by omega) out (by omega) (r0 := spec_l04Slots.l0 k n) L.length 0 k l u (-1) (by omega) (by omega) H
        rw [show ((0 : Nat) : Int) = 0 from rfl] at hp
        rw [hp]
        have HP := H.pick J s L.length 0 l u (-1) (by omega)
        have late := lateF_cases l u s L.length 0
        have hno : ∀ j : Nat, j < L.length → 0 < rd l j → s + 1 ≤ rd u j := by
          intro j hj hp
          rcases late with ⟨_, h2⟩ | ⟨i, h1, _⟩
          · have := h2 j (by omega) (by omega)
            omega
          · rw [h1] at h; omega
        refine ih (s + 1) _ _ _ n (by omega) (by omega) (by simp; omega) HP.serve ?_ (by omega)
        intro i hi hp
        exact pick_due J s L.length 0 l u (-1) (by omega) H hno i hi (served_pos HP i hp)

theorem implSlots_loop {k : Nat} (hk : 2097152 ≤ k) {L P D : List Int} (J : JobsP L P D) (hH : wholeN P ≤ 240) : ∀ (d : Nat) (s : Int) (l u out : List Int) (n : Nat), s + d = (wholeN P : Int) → 0 ≤ s → (out.length : Int) = s → HeldJ L l u (-1) → d < n →
    impl_Jobs_earliest.l0 k n L P D l u out s = resI (edf L P D d s l u out) := by
  have hnn := J.n8
  intro d
  induction d with
  | zero =>
    intro s l u out n hd hs0 ho H hn
    cases n with
    | zero => omega
    | succ n =>
      simp only [impl_Jobs_earliest.l0, impl_Jobs_earliest.s0]
      have := implLate hk J H s out (r0 := impl_Jobs_earliest.l0 k n) L.length 0 k (by omega) (by omega)
      rw [show ((0 : Nat) : Int) = 0 from rfl] at this
      rw [this]
      by_cases h : 0 ≤ lateF l u s L.length 0
      · rw [edf_zero, resI_late h, if_pos h]
      · rw [edf_zero, resI_ok h, if_neg h, if_pos (by omega)]
  | succ d ih =>
    intro s l u out n hd hs0 ho H hn
    cases n with
    | zero => omega
    | succ n =>
      simp only [impl_Jobs_earliest.l0, impl_Jobs_earliest.s0]
      have := implLate hk J H s out (r0 := impl_Jobs_earliest.l0 k n) L.length 0 k (by omega) (by omega)
      rw [show ((0 : Nat) : Int) = 0 from rfl] at this
      rw [this]
      by_cases h : 0 ≤ lateF l u s L.length 0
      · rw [edf_late h, resI_late h, if_pos h]
      · rw [edf_next h, if_neg h, if_neg (by omega)]
        have hp := implPick (k := k) J s hs0 (by omega) out (by omega) (r0 := impl_Jobs_earliest.l0 k n) L.length 0 k l u (-1) (by omega) (by omega) H
        rw [show ((0 : Nat) : Int) = 0 from rfl] at hp
        rw [hp]
        have HP := H.pick J s L.length 0 l u (-1) (by omega)
        exact ih (s + 1) _ _ _ n (by omega) (by omega) (by simp; omega) HP.serve (by omega)

/-- The slots of jobs, and the first late task, or a number below zero. -/
def slotsJ (L P D : List Int) : List Int × Int := edf L P D (wholeN P) 0 (List.replicate L.length 0) (List.replicate L.length 0) []
def lateJ (L P D : List Int) : Int := if 0 ≤ (slotsJ L P D).2 then (slotsJ L P D).2 else -1

theorem specSlots_f {k : Nat} (hk : 2097152 ≤ k) {L P D : List Int} (J : JobsP L P D) (hH : wholeN P ≤ 240) : spec_l04Slots.f k L P D = some ((slotsJ L P D).1, (if 0 ≤ (slotsJ L P D).2 then ((slotsJ L P D).1.length : Int) else -1), lateJ L P D) := by
  have hn := J.n8
  unfold spec_l04Slots.f spec_l04Slots.g
  rw [l04Whole_f' hk J hH, Option.bind_some, if_pos (by omega), if_pos (by omega), if_pos (by omega), if_pos (by omega), if_pos (by omega), if_pos (by omega), Int.toNat_natCast]
  exact specSlots_loop hk J (wholeN P : Int) (by omega) (wholeN P) 0 _ _ [] k (by omega) (by omega) rfl (HeldJ.zero L) (fun i hi h => by rw [rdZero] at h; omega) (by omega)
theorem implSlots_f {k : Nat} (hk : 2097152 ≤ k) {L P D : List Int} (J : JobsP L P D) (hH : wholeN P ≤ 240) : impl_Jobs_earliest.f k L P D = some ((slotsJ L P D).1, lateJ L P D) := by
  have hn := J.n8
  unfold impl_Jobs_earliest.f impl_Jobs_earliest.g
  rw [jobsMany_f, Option.bind_some, if_pos (by omega), if_pos (by omega), if_pos (by omega), Option.bind_some, if_pos (by omega), if_pos (by omega), if_pos (by omega), Int.toNat_natCast]
  exact implSlots_loop hk J hH (wholeN P) 0 _ _ [] k (by omega) (by omega) rfl (HeldJ.zero L) (by omega)
theorem edf_length (L P D : List Int) : ∀ (d : Nat) (s : Int) (l u out : List Int), (edf L P D d s l u out).1.length ≤ out.length + d ∧ ((edf L P D d s l u out).2 < 0 → (edf L P D d s l u out).1.length = out.length + d) := by
  intro d
  induction d with
  | zero => intro s l u out; simp [edf]
  | succ d ih =>
    intro s l u out
    rw [edf]
    split
    · rename_i h
      exact ⟨by simp, fun h2 => absurd h (by simp at h2; omega)⟩
    · have := ih (s + 1) (served (pickE L P D s L.length 0 l u (-1)).1 (pickE L P D s L.length 0 l u (-1)).2.2) (pickE L P D s L.length 0 l u (-1)).2.1 (out ++ [(pickE L P D s L.length 0 l u (-1)).2.2])
      rw [List.length_append, List.length_singleton] at this
      exact ⟨by omega, fun h => by have := this.2 h; omega⟩
theorem slotsJ_length (L P D : List Int) : (slotsJ L P D).1.length ≤ wholeN P ∧ ((slotsJ L P D).2 < 0 → (slotsJ L P D).1.length = wholeN P) := by
  have := edf_length L P D (wholeN P) 0 (List.replicate L.length 0) (List.replicate L.length 0) []
  simpa [slotsJ] using this
end Go.Proofs.Ytmgdobiloapelaa.Vf
