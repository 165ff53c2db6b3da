/- Earliest deadlines: nobody is late exactly if no demand is too great. No program here but the model of its slots. -/
import Derived.Test.YtmgdobiloapelaaQEdf
set_option linter.unusedVariables false
set_option linter.unusedSimpArgs false
namespace Go.Proofs.Ytmgdobiloapelaa.Vf
open Go Go.V Go.RowKit

/-! ### Sums -/
def sumZ (f : Nat → Int) : Nat → Int
  | 0 => 0
  | n + 1 => sumZ f n + f n
theorem sumZ_mono {f g : Nat → Int} : ∀ {n : Nat}, (∀ j, j < n → f j ≤ g j) → sumZ f n ≤ sumZ g n
  | 0, _ => Int.le_refl _
  | n + 1, h => by
    have a := sumZ_mono (n := n) fun j hj => h j (by omega)
    have b := h n (by omega)
    simp only [sumZ]; omega
theorem sumZ_congr {f g : Nat → Int} {n : Nat} (h : ∀ j, j < n → f j = g j) : sumZ f n = sumZ g n :=
  Int.le_antisymm (sumZ_mono fun j hj => Int.le_of_eq (h j hj)) (sumZ_mono fun j hj => Int.le_of_eq (h j hj).symm)
theorem sumZ_add (f g : Nat → Int) : ∀ n : Nat, sumZ (fun j => f j + g j) n = sumZ f n + sumZ g n
  | 0 => rfl
  | n + 1 => by simp only [sumZ, sumZ_add f g n]; omega
theorem sumZ_zero : ∀ n : Nat, sumZ (fun _ => 0) n = 0
  | 0 => rfl
  | n + 1 => by simp only [sumZ, sumZ_zero n]; rfl
theorem sumZ_is0 {f : Nat → Int} {n : Nat} (h : ∀ j, j < n → f j = 0) : sumZ f n = 0 := (sumZ_congr (g := fun _ => 0) h).trans (sumZ_zero n)
theorem sumZ_le0 {f : Nat → Int} {n : Nat} (h : ∀ j, j < n → f j ≤ 0) : sumZ f n ≤ 0 := by
  have := sumZ_mono (g := fun _ => 0) h
  rwa [sumZ_zero] at this
theorem sumZ_one (q : Nat) (c : Int) : ∀ n : Nat, sumZ (fun j => if j = q then c else 0) n = if q < n then c else 0
  | 0 => by simp [sumZ]
  | n + 1 => by
    simp only [sumZ, sumZ_one q c n]
    by_cases h : n = q
    · subst h; rw [if_neg (by omega), if_pos rfl, if_pos (by omega)]; omega
    · rw [if_neg h]
      by_cases h2 : q < n
      · rw [if_pos h2, if_pos (by omega)]; omega
      · rw [if_neg h2, if_neg (by omega)]; omega
theorem sumZ_nonneg {f : Nat → Int} {n : Nat} (h : ∀ j, j < n → 0 ≤ f j) : 0 ≤ sumZ f n := by
  have := sumZ_mono (f := fun _ => 0) (g := f) (n := n) h
  rwa [sumZ_zero] at this
theorem sumZ_ge {f : Nat → Int} {n q : Nat} (h : ∀ j, j < n → 0 ≤ f j) (hq : q < n) : f q ≤ sumZ f n := by
  have := sumZ_mono (f := fun j => if j = q then f q else 0) (g := f) (n := n) (fun j hj => by
    by_cases e : j = q
    · simp [e]
    · rw [if_neg e]; exact h j hj)
  rw [sumZ_one, if_pos hq] at this
  exact this

/-! ### What a slot's releases and choice do -/
theorem pick_val {L P D : List Int} (J : JobsP L P D) (s : Int) : ∀ (d i : Nat) (l u : List Int) (b : Int), i + d = L.length → HeldJ L l u b → ∀ j : Nat, j < L.length →
    rd (pickE L P D s d i l u b).1 j = (if i ≤ j ∧ Int.tmod s (rd P j) = 0 then rd L j else rd l j) ∧ rd (pickE L P D s d i l u b).2.1 j = (if i ≤ j ∧ Int.tmod s (rd P j) = 0 then s + rd D j else rd u j) := by
  intro d
  induction d with
  | zero =>
    intro i l u b hd H j hj
    rw [if_neg (by omega), if_neg (by omega)]
    exact ⟨rfl, rfl⟩
  | succ d ih =>
    intro i l u b hd H j hj
    obtain ⟨e1, e2⟩ := ih (i + 1) _ _ _ (by omega) (H.step J s i (by omega)) j hj
    refine ⟨e1.trans ?_, e2.trans ?_⟩
    · by_cases c : Int.tmod s (rd P i) = 0
      · rw [if_pos c, rdSet (by rw [H.hl]; omega)]
        by_cases e : j = i
        · subst e; rw [if_neg (by omega), if_pos rfl, if_pos ⟨Nat.le_refl _, c⟩]
        · rw [if_neg e]
          by_cases c2 : i + 1 ≤ j ∧ Int.tmod s (rd P j) = 0
          · rw [if_pos c2, if_pos ⟨by omega, c2.2⟩]
          · rw [if_neg c2, if_neg (fun h => c2 ⟨by omega, h.2⟩)]
      · rw [if_neg c]
        by_cases c2 : i + 1 ≤ j ∧ Int.tmod s (rd P j) = 0
        · rw [if_pos c2, if_pos ⟨by omega, c2.2⟩]
        · rw [if_neg c2, if_neg (fun h => by
            by_cases e : j = i
            · subst e; exact c h.2
            · exact c2 ⟨by omega, h.2⟩)]
    · by_cases c : Int.tmod s (rd P i) = 0
      · rw [if_pos c, rdSet (by rw [H.hu]; omega)]
        by_cases e : j = i
        · subst e; rw [if_neg (by omega), if_pos rfl, if_pos ⟨Nat.le_refl _, c⟩]
        · rw [if_neg e]
          by_cases c2 : i + 1 ≤ j ∧ Int.tmod s (rd P j) = 0
          · rw [if_pos c2, if_pos ⟨by omega, c2.2⟩]
          · rw [if_neg c2, if_neg (fun h => c2 ⟨by omega, h.2⟩)]
      · rw [if_neg c]
        by_cases c2 : i + 1 ≤ j ∧ Int.tmod s (rd P j) = 0
        · rw [if_pos c2, if_pos ⟨by omega, c2.2⟩]
        · rw [if_neg c2, if_neg (fun h => by
            by_cases e : j = i
            · subst e; exact c h.2
            · exact c2 ⟨by omega, h.2⟩)]

/-- One of those with work left that is due first, or none. -/
def Best (m : Nat) (l u : List Int) (b : Int) : Prop := (b = -1 ∧ ∀ j : Nat, j < m → rd l j ≤ 0) ∨ ∃ q : Nat, b = q ∧ q < m ∧ 0 < rd l q ∧ ∀ j : Nat, j < m → 0 < rd l j → rd u q ≤ rd u j

theorem pick_best {L P D : List Int} (J : JobsP L P D) (s : Int) : ∀ (d i : Nat) (l u : List Int) (b : Int), i + d = L.length → HeldJ L l u b → Best i l u b →
    Best L.length (pickE L P D s d i l u b).1 (pickE L P D s d i l u b).2.1 (pickE L P D s d i l u b).2.2 := by
  intro d
  induction d with
  | zero => intro i l u b hd H B; rw [show L.length = i by omega]; exact B
  | succ d ih =>
    intro i l u b hd H B
    refine ih (i + 1) _ _ _ (by omega) (H.step J s i (by omega)) ?_
    have hl2 : ∀ j : Nat, j < i → rd (if Int.tmod s (rd P i) = 0 then l.set i (rd L i) else l) j = rd l j := by
      intro j hj
      by_cases c : Int.tmod s (rd P i) = 0
      · rw [if_pos c, rdSet (by rw [H.hl]; omega), if_neg (by omega)]
      · rw [if_neg c]
    have hu2 : ∀ j : Nat, j < i → rd (if Int.tmod s (rd P i) = 0 then u.set i (s + rd D i) else u) j = rd u j := by
      intro j hj
      by_cases c : Int.tmod s (rd P i) = 0
      · rw [if_pos c, rdSet (by rw [H.hu]; omega), if_neg (by omega)]
      · rw [if_neg c]
    generalize (if Int.tmod s (rd P i) = 0 then l.set i (rd L i) else l) = l2 at *
    generalize (if Int.tmod s (rd P i) = 0 then u.set i (s + rd D i) else u) = u2 at *
    by_cases c : 0 < rd l2 i ∧ (b = -1 ∨ rd u2 i < rd u2 b)
    · rw [if_pos c]
      refine .inr ⟨i, rfl, by omega, c.1, fun j hj hp => ?_⟩
      by_cases e : j = i
      · subst e; exact Int.le_refl _
      · rw [hl2 j (by omega)] at hp
        rw [hu2 j (by omega)]
        rcases B with ⟨b1, b2⟩ | ⟨q, b1, b2, b3, b4⟩
        · have := b2 j (by omega); omega
        · have h1 := b4 j (by omega) hp
          have h2 := hu2 q b2
          rw [b1] at c
          rcases c.2 with c2 | c2
          · omega
          · omega
    · rw [if_neg c]
      rcases B with ⟨b1, b2⟩ | ⟨q, b1, b2, b3, b4⟩
      · refine .inl ⟨b1, fun j hj => ?_⟩
        by_cases e : j = i
        · subst e
          by_cases h : 0 < rd l2 j
          · exact absurd ⟨h, .inl b1⟩ c
          · omega
        · rw [hl2 j (by omega)]; exact b2 j (by omega)
      · refine .inr ⟨q, b1, by omega, by rw [hl2 q b2]; exact b3, fun j hj hp => ?_⟩
        by_cases e : j = i
        · subst e
          by_cases h : rd u2 j < rd u2 q
          · exact absurd ⟨hp, .inr (by rw [b1]; exact h)⟩ c
          · omega
        · rw [hl2 j (by omega)] at hp
          rw [hu2 q b2, hu2 j (by omega)]
          exact b4 j (by omega) hp

theorem served_val {l : List Int} {b : Int} {n : Nat} (hl : l.length = n) (B : b = -1 ∨ ∃ q : Nat, b = q ∧ q < n) (j : Nat) : rd (served l b) j = rd l j - (if b = (j : Int) then 1 else 0) := by
  rcases B with h | ⟨q, h, hq⟩
  · rw [served_no h, if_neg (by omega)]; omega
  · rw [served_yes (by omega), h, Int.toNat_natCast, rdSet (by omega)]
    by_cases e : j = q
    · subst e; rw [if_pos rfl, if_pos rfl]
    · rw [if_neg e, if_neg (by omega)]; omega

/-! ### Demands -/
theorem ediv_uniq {a p q : Int} (hp : 0 < p) (h1 : p * q ≤ a) (h2 : a < p * q + p) : a / p = q := by
  have e := Int.mul_ediv_add_emod a p
  have m0 := Int.emod_nonneg a (show p ≠ 0 by omega)
  have m1 := Int.emod_lt_of_pos a hp
  rcases Int.lt_trichotomy (a / p) q with h | h | h
  · have := Int.mul_le_mul_of_nonneg_left (show a / p + 1 ≤ q by omega) (show 0 ≤ p by omega)
    rw [Int.mul_add, Int.mul_one] at this; omega
  · exact h
  · have := Int.mul_le_mul_of_nonneg_left (show q + 1 ≤ a / p by omega) (show 0 ≤ p by omega)
    rw [Int.mul_add, Int.mul_one] at this; omega
theorem le_ediv {a p q : Int} (hp : 0 < p) (h : q * p ≤ a) : q ≤ a / p := by
  have e := Int.mul_ediv_add_emod a p
  have m1 := Int.emod_lt_of_pos a hp
  by_cases c : q ≤ a / p
  · exact c
  · have := Int.mul_le_mul_of_nonneg_left (show a / p + 1 ≤ q by omega) (show 0 ≤ p by omega)
    rw [Int.mul_add, Int.mul_one, Int.mul_comm p q] at this; omega
theorem ediv_mono {a b p : Int} (hp : 0 < p) (h : a ≤ b) : a / p ≤ b / p := Int.ediv_le_ediv hp h

def demT (L P D : List Int) (n : Int) (j : Nat) : Int := if rd D j ≤ n then rd L j * ((n - rd D j) / rd P j + 1) else 0
/-- The demand up to n. -/
def demJ (L P D : List Int) (n : Int) : Int := sumZ (demT L P D n) L.length

/-- How often a task comes in m slots from a on, due at T or sooner. -/
def cntF (p dd a T : Int) : Nat → Int
  | 0 => 0
  | m + 1 => cntF p dd a T m + (if (a + m) % p = 0 ∧ a + m + dd ≤ T then 1 else 0)

theorem cntF_last {p dd a T : Int} (hp : 0 < p) : ∀ m : Nat, cntF p dd a T m = 0 ∨ ∃ r : Int, a ≤ r ∧ r < a + m ∧ r % p = 0 ∧ r + dd ≤ T ∧ (cntF p dd a T m - 1) * p ≤ r - a
  | 0 => .inl rfl
  | m + 1 => by
    simp only [cntF]
    by_cases c : (a + (m : Int)) % p = 0 ∧ a + m + dd ≤ T
    · rw [if_pos c]
      right
      refine ⟨a + m, by omega, by omega, c.1, c.2, ?_⟩
      rcases cntF_last hp m with h | ⟨r, h1, h2, h3, h4, h5⟩
      · rw [h]; simp; omega
      · have e1 := Int.mul_ediv_add_emod r p
        have e2 := Int.mul_ediv_add_emod (a + (m : Int)) p
        rw [h3] at e1
        rw [c.1] at e2
        have hq : r / p + 1 ≤ (a + (m : Int)) / p := by
          by_cases c2 : r / p + 1 ≤ (a + (m : Int)) / p
          · exact c2
          · have := Int.mul_le_mul_of_nonneg_left (show (a + (m : Int)) / p ≤ r / p by omega) (show 0 ≤ p by omega)
            omega
        have := Int.mul_le_mul_of_nonneg_left hq (show 0 ≤ p by omega)
        rw [Int.mul_add, Int.mul_one] at this
        rw [Int.sub_mul, Int.one_mul] at h5
        rw [Int.sub_mul, Int.add_mul, Int.one_mul]
        omega
    · rw [if_neg c, Int.add_zero]
      rcases cntF_last hp m with h | ⟨r, h1, h2, h3, h4, h5⟩
      · exact .inl h
      · exact .inr ⟨r, h1, by omega, h3, h4, h5⟩

theorem cntF_bnd {p dd a T : Int} (hp : 0 < p) (m : Nat) : cntF p dd a T m ≤ if dd ≤ T - a then (T - a - dd) / p + 1 else 0 := by
  rcases cntF_last (dd := dd) (a := a) (T := T) hp m with h | ⟨r, h1, h2, h3, h4, h5⟩
  · rw [h]
    by_cases c : dd ≤ T - a
    · rw [if_pos c]
      have := Int.ediv_nonneg (show 0 ≤ T - a - dd by omega) (show 0 ≤ p by omega)
      omega
    · rw [if_neg c]; omega
  · rw [if_pos (by omega)]
    have := le_ediv hp (show (cntF p dd a T m - 1) * p ≤ T - a - dd by omega)
    omega

def workJ (L P D : List Int) (a T : Int) (m : Nat) : Int := sumZ (fun j => rd L j * cntF (rd P j) (rd D j) a T m) L.length

theorem work_dem {L P D : List Int} (J : JobsP L P D) (a T : Int) (m : Nat) : workJ L P D a T m ≤ demJ L P D (T - a) := by
  refine sumZ_mono fun j hj => ?_
  obtain ⟨h1, h2, h3⟩ := J.each j hj
  have := cntF_bnd (dd := rd D j) (a := a) (T := T) (show 0 < rd P j by omega) m
  unfold demT
  by_cases c : rd D j ≤ T - a
  · rw [if_pos c] at this ⊢
    exact Int.mul_le_mul_of_nonneg_left this (by omega)
  · rw [if_neg c] at this ⊢
    have := Int.mul_le_mul_of_nonneg_left this (show 0 ≤ rd L j by omega)
    omega

/-! ### If no demand is too great, nobody is late -/
/-- The work that is left and due at T or sooner. -/
def leftT (l u : List Int) (T : Int) (j : Nat) : Int := if rd u j ≤ T then rd l j else 0

structure InvA (L P D : List Int) (t : Nat) (l u : List Int) : Prop where
  room : ∀ T : Int, ∃ a m : Nat, a + m = t ∧ sumZ (leftT l u T) L.length + m ≤ workJ L P D a T m

theorem invA_zero (L P D : List Int) : InvA L P D 0 (List.replicate L.length 0) (List.replicate L.length 0) := by
  refine ⟨fun T => ⟨0, 0, rfl, ?_⟩⟩
  have e1 : sumZ (leftT (List.replicate L.length 0) (List.replicate L.length 0) T) L.length = 0 := by
    exact sumZ_is0 fun j hj => by unfold leftT; rw [rdZero]; split <;> rfl
  have e2 : workJ L P D ((0 : Nat) : Int) T 0 = 0 := by
    exact sumZ_is0 fun j hj => by simp [cntF]
  rw [e1, e2]; simp

theorem invA_step {L P D : List Int} (J : JobsP L P D) {t : Nat} {l u : List Int} (H : HeldJ L l u (-1)) (I : InvA L P D t l u) :
    InvA L P D (t + 1) (served (pickE L P D t L.length 0 l u (-1)).1 (pickE L P D t L.length 0 l u (-1)).2.2) (pickE L P D t L.length 0 l u (-1)).2.1 := by
  have HP := H.pick J t L.length 0 l u (-1) (by omega)
  have HV := pick_val J t L.length 0 l u (-1) (by omega) H
  have HB := pick_best J t L.length 0 l u (-1) (by omega) H (.inl ⟨rfl, fun j hj => by omega⟩)
  generalize (pickE L P D t L.length 0 l u (-1)).1 = l2 at *
  generalize (pickE L P D t L.length 0 l u (-1)).2.1 = u2 at *
  generalize (pickE L P D t L.length 0 l u (-1)).2.2 = b at *
  refine ⟨fun T => ?_⟩
  obtain ⟨a, m, e, h⟩ := I.room T
  have hrel : sumZ (leftT l2 u2 T) L.length + m ≤ workJ L P D a T (m + 1) := by
    have e1 : workJ L P D a T (m + 1) = workJ L P D a T m + sumZ (fun j => rd L j * (if ((a : Int) + m) % rd P j = 0 ∧ (a : Int) + m + rd D j ≤ T then 1 else 0)) L.length := by
      unfold workJ
      rw [← sumZ_add]
      exact sumZ_congr fun j hj => by simp only [cntF]; rw [Int.mul_add]
    have e2 : sumZ (leftT l2 u2 T) L.length ≤ sumZ (leftT l u T) L.length + sumZ (fun j => rd L j * (if ((a : Int) + m) % rd P j = 0 ∧ (a : Int) + m + rd D j ≤ T then 1 else 0)) L.length := by
      rw [← sumZ_add]
      refine sumZ_mono fun j hj => ?_
      obtain ⟨v1, v2⟩ := HV j hj
      have hj1 := (J.each j hj).1
      have hb := H.bnd j hj
      unfold leftT
      by_cases c : Int.tmod (t : Int) (rd P j) = 0
      · rw [if_pos (show 0 ≤ j ∧ Int.tmod (t : Int) (rd P j) = 0 from ⟨Nat.zero_le _, c⟩)] at v1 v2
        rw [v1, v2]
        rw [Int.tmod_eq_emod_of_nonneg (by omega)] at c
        rw [show ((a : Int) + m) = (t : Int) by omega]
        by_cases c2 : (t : Int) + rd D j ≤ T
        · rw [if_pos c2, if_pos (show (t : Int) % rd P j = 0 ∧ (t : Int) + rd D j ≤ T from ⟨c, c2⟩)]
          by_cases c3 : rd u j ≤ T
          · rw [if_pos c3]; omega
          · rw [if_neg c3]; omega
        · rw [if_neg c2, if_neg (show ¬ ((t : Int) % rd P j = 0 ∧ (t : Int) + rd D j ≤ T) from fun h => c2 h.2)]
          by_cases c3 : rd u j ≤ T
          · rw [if_pos c3]; omega
          · rw [if_neg c3]; omega
      · rw [if_neg (show ¬ (0 ≤ j ∧ Int.tmod (t : Int) (rd P j) = 0) from fun h => c h.2)] at v1 v2
        rw [v1, v2]
        rw [Int.tmod_eq_emod_of_nonneg (by omega)] at c
        rw [show ((a : Int) + m) = (t : Int) by omega, if_neg (show ¬ ((t : Int) % rd P j = 0 ∧ (t : Int) + rd D j ≤ T) from fun h => c h.1)]
        omega
    omega
  have hB : b = -1 ∨ ∃ q : Nat, b = q ∧ q < L.length := by
    rcases HB with ⟨h, _⟩ | ⟨q, h1, h2, _⟩
    · exact .inl h
    · exact .inr ⟨q, h1, h2⟩
  have hsv := served_val HP.hl hB
  by_cases c : ∃ q : Nat, b = q ∧ q < L.length ∧ rd u2 q ≤ T
  · obtain ⟨q, c1, c2, c3⟩ := c
    refine ⟨a, m + 1, by omega, ?_⟩
    have e3 : sumZ (leftT l2 u2 T) L.length = sumZ (leftT (served l2 b) u2 T) L.length + sumZ (fun j => if j = q then 1 else 0) L.length := by
      rw [← sumZ_add]
      refine sumZ_congr fun j hj => ?_
      unfold leftT
      rw [hsv j, c1]
      by_cases e : j = q
      · subst e; rw [if_pos c3, if_pos c3, if_pos rfl, if_pos rfl]; omega
      · rw [if_neg (show ¬ (q : Int) = (j : Int) by omega), if_neg e]
        by_cases c4 : rd u2 j ≤ T
        · rw [if_pos c4, if_pos c4]; omega
        · rw [if_neg c4, if_neg c4]; omega
    rw [sumZ_one, if_pos c2] at e3
    push_cast
    omega
  · refine ⟨t + 1, 0, rfl, ?_⟩
    have e1 : sumZ (leftT (served l2 b) u2 T) L.length ≤ 0 := by
      refine sumZ_le0 fun j hj => ?_
      unfold leftT
      by_cases c4 : rd u2 j ≤ T
      · rw [if_pos c4, hsv j]
        have hno : rd l2 j ≤ 0 := by
          rcases HB with ⟨h1, h2⟩ | ⟨q, h1, h2, h3, h4⟩
          · exact h2 j hj
          · by_cases hp : 0 < rd l2 j
            · have := h4 j hj hp
              exact absurd ⟨q, h1, h2, by omega⟩ c
            · omega
        by_cases c5 : b = (j : Int)
        · rw [if_pos c5]; omega
        · rw [if_neg c5]; omega
      · rw [if_neg c4]; omega
    have e2 : workJ L P D ((t + 1 : Nat) : Int) T 0 = 0 := by
      exact sumZ_is0 fun j hj => by simp [cntF]
    rw [e2]; simp; omega

theorem invA_late {L P D : List Int} (J : JobsP L P D) {t : Nat} {l u : List Int} (H : HeldJ L l u (-1)) (I : InvA L P D t l u) (hd : ∀ n : Nat, 1 ≤ n → n ≤ t → demJ L P D n ≤ n) : lateF l u t L.length 0 = -1 := by
  rcases lateF_cases l u t L.length 0 with ⟨h, _⟩ | ⟨j, _, _, h2, h3, h4⟩
  · exact h
  · exfalso
    obtain ⟨a, m, e, h⟩ := I.room t
    have h5 : leftT l u t j ≤ sumZ (leftT l u t) L.length := sumZ_ge (fun i hi => by
      unfold leftT
      have := H.bnd i hi
      split <;> omega) (by omega)
    unfold leftT at h5
    rw [if_pos h4] at h5
    have h6 := work_dem J a t m
    rw [show (t : Int) - (a : Int) = ((m : Nat) : Int) by omega] at h6
    by_cases hm : m = 0
    · subst hm
      have e2 : workJ L P D a t 0 = 0 := by
        exact sumZ_is0 fun j hj => by simp [cntF]
      unfold leftT at h
      omega
    · have := hd m (by omega) (by omega)
      unfold leftT at h
      omega

theorem edf_good {L P D : List Int} (J : JobsP L P D) : ∀ (d t : Nat) (l u out : List Int), HeldJ L l u (-1) → InvA L P D t l u → (∀ n : Nat, 1 ≤ n → n ≤ t + d → demJ L P D n ≤ n) → (edf L P D d t l u out).2 < 0 := by
  intro d
  induction d with
  | zero =>
    intro t l u out H I hd
    rw [edf_zero, invA_late J H I (fun n h1 h2 => hd n h1 (by omega))]
    show (-1 : Int) < 0
    decide
  | succ d ih =>
    intro t l u out H I hd
    have hl := invA_late J H I (fun n h1 h2 => hd n h1 (by omega))
    rw [edf_next (by rw [hl]; decide)]
    have := ih (t + 1) _ _ (out ++ [(pickE L P D t L.length 0 l u (-1)).2.2]) (H.pick J t L.length 0 l u (-1) (by omega)).serve (invA_step J H I) (fun n h1 h2 => hd n h1 (by omega))
    rw [show ((t + 1 : Nat) : Int) = (t : Int) + 1 by omega] at this
    exact this

/-! ### If nobody is late, no demand is too great, and each one has its slots -/
def cntO (out : List Int) (j : Nat) : Int := (out.count (j : Int) : Int)
theorem cntO_app (out : List Int) (b : Int) (j : Nat) : cntO (out ++ [b]) j = cntO out j + (if b = (j : Int) then 1 else 0) := by
  unfold cntO
  rw [List.count_append, List.count_singleton]
  by_cases h : b = (j : Int)
  · simp [h]
  · simp [h]
theorem cntO_sum (n : Nat) : ∀ out : List Int, sumZ (cntO out) n ≤ out.length
  | [] => by
    rw [show sumZ (cntO []) n = 0 from sumZ_is0 fun j _ => by simp [cntO]]
    simp
  | x :: out => by
    have ih := cntO_sum n out
    have e : sumZ (cntO (x :: out)) n = sumZ (cntO out) n + sumZ (fun j => if x = (j : Int) then 1 else 0) n := by
      rw [← sumZ_add]
      refine sumZ_congr fun j _ => ?_
      unfold cntO
      rw [List.count_cons]
      by_cases h : x = (j : Int)
      · simp [h]
      · simp [h]
    have h1 : sumZ (fun j : Nat => if x = (j : Int) then (1 : Int) else 0) n ≤ 1 := by
      by_cases hx : 0 ≤ x
      · obtain ⟨q, rfl⟩ := Int.eq_ofNat_of_zero_le hx
        have e2 : sumZ (fun j : Nat => if (q : Int) = (j : Int) then (1 : Int) else 0) n = sumZ (fun j => if j = q then 1 else 0) n := sumZ_congr fun j _ => by
          by_cases c : j = q
          · subst c; simp
          · rw [if_neg c, if_neg (by omega)]
        rw [e2, sumZ_one]
        split <;> omega
      · have e2 : sumZ (fun j : Nat => if x = (j : Int) then (1 : Int) else 0) n = 0 := by
          exact sumZ_is0 fun j _ => if_neg (by omega)
        omega
    simp only [List.length_cons]
    omega

theorem div_prev {t p : Int} (hp : 0 < p) (ht : 1 ≤ t) : (t % p = 0 → (t - 1) / p = t / p - 1 ∧ p * (t / p) = t) ∧ (t % p ≠ 0 → (t - 1) / p = t / p) := by
  have e := Int.mul_ediv_add_emod t p
  have m0 := Int.emod_nonneg t (show p ≠ 0 by omega)
  have m1 := Int.emod_lt_of_pos t hp
  constructor
  · intro h
    rw [h] at e
    refine ⟨ediv_uniq hp ?_ ?_, by omega⟩
    · rw [Int.mul_sub, Int.mul_one]; omega
    · rw [Int.mul_sub, Int.mul_one]; omega
  · intro h
    exact ediv_uniq hp (by omega) (by omega)

/-- What is known of a task at the begin of slot t, ahead of its releases. -/
def OneB (L P D : List Int) (t : Nat) (l u out : List Int) (j : Nat) : Prop :=
  (t = 0 ∧ rd l j = 0 ∧ cntO out j = 0) ∨ (1 ≤ t ∧ rd u j = rd P j * (((t : Int) - 1) / rd P j) + rd D j ∧ cntO out j + rd l j = rd L j * (((t : Int) - 1) / rd P j + 1) ∧ 0 ≤ rd l j ∧ rd l j ≤ rd L j)

structure InvB (L P D : List Int) (t : Nat) (l u out : List Int) : Prop where
  len : out.length = t
  one : ∀ j : Nat, j < L.length → OneB L P D t l u out j

theorem invB_step {L P D : List Int} (J : JobsP L P D) {t : Nat} {l u out : List Int} (H : HeldJ L l u (-1)) (I : InvB L P D t l u out) (hl : ¬ 0 ≤ lateF l u t L.length 0) :
    InvB L P D (t + 1) (served (pickE L P D t L.length 0 l u (-1)).1 (pickE L P D t L.length 0 l u (-1)).2.2) (pickE L P D t L.length 0 l u (-1)).2.1 (out ++ [(pickE L P D t L.length 0 l u (-1)).2.2]) := by
  have hno : ∀ j : Nat, j < L.length → ¬ (0 < rd l j ∧ rd u j ≤ t) := by
    rcases lateF_cases l u t L.length 0 with ⟨_, h⟩ | ⟨j, h1, _⟩
    · intro j hj; exact h j (by omega) (by omega)
    · rw [h1] at hl; omega
  have HP := H.pick J t L.length 0 l u (-1) (by omega)
  have HV := pick_val J t L.length 0 l u (-1) (by omega) H
  have HB := pick_best J t L.length 0 l u (-1) (by omega) H (.inl ⟨rfl, fun j hj => by omega⟩)
  generalize (pickE L P D t L.length 0 l u (-1)).1 = l2 at *
  generalize (pickE L P D t L.length 0 l u (-1)).2.1 = u2 at *
  generalize (pickE L P D t L.length 0 l u (-1)).2.2 = b at *
  have hB : b = -1 ∨ ∃ q : Nat, b = q ∧ q < L.length := by
    rcases HB with ⟨h, _⟩ | ⟨q, h1, h2, _⟩
    · exact .inl h
    · exact .inr ⟨q, h1, h2⟩
  have hsv := served_val HP.hl hB
  refine ⟨by simp [I.len], fun j hj => ?_⟩
  obtain ⟨hL, hPp, hD1, hDP⟩ := J.each j hj
  obtain ⟨v1, v2⟩ := HV j hj
  have hp : 0 < rd P j := by omega
  -- behind the releases
  have rel : rd u2 j = rd P j * ((t : Int) / rd P j) + rd D j ∧ cntO out j + rd l2 j = rd L j * ((t : Int) / rd P j + 1) ∧ 0 ≤ rd l2 j ∧ rd l2 j ≤ rd L j := by
    by_cases c : Int.tmod (t : Int) (rd P j) = 0
    · rw [if_pos (show 0 ≤ j ∧ Int.tmod (t : Int) (rd P j) = 0 from ⟨Nat.zero_le _, c⟩)] at v1 v2
      rw [v1, v2]
      rw [Int.tmod_eq_emod_of_nonneg (by omega)] at c
      rcases I.one j hj with ⟨h0, h1, h2⟩ | ⟨h0, h1, h2, h3, h4⟩
      · subst h0
        have e0 : (((0 : Nat) : Int)) / rd P j = 0 := by simp
        rw [e0, h2]
        refine ⟨by simp, by simp, by omega, by omega⟩
      · obtain ⟨q1, q2⟩ := (div_prev hp (show (1 : Int) ≤ t by omega)).1 c
        rw [q1] at h1 h2
        have hz : rd l j = 0 := by
          have := hno j hj
          rw [h1, Int.mul_sub, Int.mul_one] at this
          omega
        rw [Int.sub_add_cancel, hz] at h2
        rw [q2, Int.mul_add, Int.mul_one]
        omega
    · rw [if_neg (show ¬ (0 ≤ j ∧ Int.tmod (t : Int) (rd P j) = 0) from fun h => c h.2)] at v1 v2
      rw [v1, v2]
      rw [Int.tmod_eq_emod_of_nonneg (by omega)] at c
      rcases I.one j hj with ⟨h0, h1, h2⟩ | ⟨h0, h1, h2, h3, h4⟩
      · subst h0; exact absurd (by simp) c
      · have q := (div_prev hp (show (1 : Int) ≤ t by omega)).2 c
        rw [q] at h1 h2
        exact ⟨h1, h2, h3, h4⟩
  obtain ⟨r1, r2, r3, r4⟩ := rel
  right
  rw [cntO_app, hsv j, show ((t + 1 : Nat) : Int) - 1 = (t : Int) by omega]
  refine ⟨by omega, r1, by omega, ?_, ?_⟩
  · by_cases c5 : b = (j : Int)
    · rw [if_pos c5]
      rcases HB with ⟨h, _⟩ | ⟨q, h1, h2, h3, _⟩
      · omega
      · have : q = j := by omega
        subst this; omega
    · rw [if_neg c5]; omega
  · split <;> omega

theorem invB_dem {L P D : List Int} (J : JobsP L P D) {t : Nat} {l u out : List Int} (I : InvB L P D t l u out) (hl : ¬ 0 ≤ lateF l u t L.length 0) (ht : 1 ≤ t) : demJ L P D t ≤ t := by
  have hno : ∀ j : Nat, j < L.length → ¬ (0 < rd l j ∧ rd u j ≤ t) := by
    rcases lateF_cases l u t L.length 0 with ⟨_, h⟩ | ⟨j, h1, _⟩
    · intro j hj; exact h j (by omega) (by omega)
    · rw [h1] at hl; omega
  have h1 : demJ L P D t ≤ sumZ (cntO out) L.length := by
    refine sumZ_mono fun j hj => ?_
    obtain ⟨hL, hPp, hD1, hDP⟩ := J.each j hj
    have hp : 0 < rd P j := by omega
    have hc : 0 ≤ cntO out j := by unfold cntO; omega
    unfold demT
    by_cases c : rd D j ≤ t
    · rw [if_pos c]
      rcases I.one j hj with ⟨h0, _, _⟩ | ⟨h0, h1, h2, h3, h4⟩
      · omega
      · by_cases c2 : rd u j ≤ t
        · have hz : rd l j = 0 := by have := hno j hj; omega
          rw [hz, Int.add_zero] at h2
          rw [h2]
          refine Int.mul_le_mul_of_nonneg_left ?_ (by omega)
          have := ediv_mono hp (show (t : Int) - rd D j ≤ (t : Int) - 1 by omega)
          omega
        · have hq : ((t : Int) - rd D j) / rd P j + 1 ≤ ((t : Int) - 1) / rd P j := by
            have e := Int.mul_ediv_add_emod ((t : Int) - rd D j) (rd P j)
            have m0 := Int.emod_nonneg ((t : Int) - rd D j) (show rd P j ≠ 0 by omega)
            by_cases c3 : ((t : Int) - rd D j) / rd P j + 1 ≤ ((t : Int) - 1) / rd P j
            · exact c3
            · have := Int.mul_le_mul_of_nonneg_left (show ((t : Int) - 1) / rd P j ≤ ((t : Int) - rd D j) / rd P j by omega) (show 0 ≤ rd P j by omega)
              omega
          have := Int.mul_le_mul_of_nonneg_left hq (show 0 ≤ rd L j by omega)
          rw [Int.mul_add, Int.mul_one] at h2
          omega
    · rw [if_neg c]; exact hc
  have h2 := cntO_sum L.length out
  rw [I.len] at h2
  omega

theorem edf_bad {L P D : List Int} (J : JobsP L P D) : ∀ (d t : Nat) (l u out : List Int), HeldJ L l u (-1) → InvB L P D t l u out → 1 ≤ t + d → (∀ j : Nat, j < L.length → rd P j ∣ ((t + d : Nat) : Int)) → (edf L P D d t l u out).2 < 0 →
    (∀ n : Nat, t ≤ n → 1 ≤ n → n ≤ t + d → demJ L P D n ≤ n) ∧ ∀ j : Nat, j < L.length → cntO (edf L P D d t l u out).1 j * rd P j = rd L j * ((t + d : Nat) : Int) := by
  intro d
  induction d with
  | zero =>
    intro t l u out H I h1 hdv hg
    rw [edf_zero] at hg ⊢
    have hl : ¬ 0 ≤ lateF l u t L.length 0 := by
      have hg : lateF l u t L.length 0 < 0 := hg
      omega
    refine ⟨fun n h2 h3 h4 => ?_, fun j hj => ?_⟩
    · obtain rfl : n = t := by omega
      exact invB_dem J I hl h3
    · obtain ⟨hL, hPp, hD1, hDP⟩ := J.each j hj
      have hp : 0 < rd P j := by omega
      have hno : ¬ (0 < rd l j ∧ rd u j ≤ t) := by
        rcases lateF_cases l u t L.length 0 with ⟨_, h⟩ | ⟨j, h1, _⟩
        · exact h j (by omega) (by omega)
        · rw [h1] at hl; omega
      have hm := Int.emod_eq_zero_of_dvd (hdv j hj)
      rw [Nat.add_zero] at hm h1 ⊢
      rcases I.one j hj with ⟨h0, _, _⟩ | ⟨h0, q1, q2, q3, q4⟩
      · omega
      · obtain ⟨e1, e2⟩ := (div_prev hp (show (1 : Int) ≤ t by omega)).1 hm
        rw [e1] at q1 q2
        have hz : rd l j = 0 := by
          rw [q1, Int.mul_sub, Int.mul_one] at hno
          omega
        rw [Int.sub_add_cancel, hz, Int.add_zero] at q2
        show cntO out j * rd P j = _
        rw [q2, Int.mul_assoc, Int.mul_comm _ (rd P j), e2]
  | succ d ih =>
    intro t l u out H I h1 hdv hg
    by_cases hl : 0 ≤ lateF l u t L.length 0
    · rw [edf_late hl] at hg
      have hg : lateF l u t L.length 0 < 0 := hg
      omega
    · rw [edf_next hl] at hg ⊢
      have e : ((t + 1 : Nat) : Int) = (t : Int) + 1 := by omega
      have := ih (t + 1) _ _ _ (H.pick J t L.length 0 l u (-1) (by omega)).serve (invB_step J H I hl) (by omega) (by rw [show t + 1 + d = t + (d + 1) by omega]; exact hdv) (by rw [e]; exact hg)
      rw [e, show t + 1 + d = t + (d + 1) by omega] at this
      refine ⟨fun n h2 h3 h4 => ?_, this.2⟩
      by_cases c : n = t
      · subst c; exact invB_dem J I hl h3
      · exact this.1 n (by omega) h3 h4

theorem jobs_iff {L P D : List Int} (J : JobsP L P D) : ((slotsJ L P D).2 < 0 ↔ ∀ n : Nat, 1 ≤ n → n ≤ wholeN P → demJ L P D n ≤ n) ∧ ((slotsJ L P D).2 < 0 → ∀ j : Nat, j < L.length → cntO (slotsJ L P D).1 j * rd P j = rd L j * (wholeN P : Int)) := by
  obtain ⟨w1, w2, w3⟩ := J.whole
  have I0 : InvB L P D 0 (List.replicate L.length 0) (List.replicate L.length 0) [] := ⟨rfl, fun j _ => .inl ⟨rfl, rdZero _ _, by simp [cntO]⟩⟩
  have hdv : ∀ j : Nat, j < L.length → rd P j ∣ ((0 + wholeN P : Nat) : Int) := by
    intro j hj
    have h1 := w3 j hj
    have h2 := (J.each j hj).2.1
    rw [Nat.zero_add]
    have := Int.natCast_dvd_natCast.2 h1
    rwa [Int.toNat_of_nonneg (by omega)] at this
  have bad := edf_bad J (wholeN P) 0 _ _ [] (HeldJ.zero L) I0 (by omega) hdv
  rw [Nat.zero_add] at bad
  refine ⟨⟨fun h n h1 h2 => (bad h).1 n (by omega) h1 h2, fun h => ?_⟩, fun h => (bad h).2⟩
  have := edf_good J (wholeN P) 0 _ _ [] (HeldJ.zero L) (invA_zero L P D) (fun n h1 h2 => h n h1 (by omega))
  exact this

end Go.Proofs.Ytmgdobiloapelaa.Vf
