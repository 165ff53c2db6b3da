/- Demands, room, load of jobs. -/
import Derived.Test.YtmgdobiloapelaaQEdfT
set_option linter.unusedVariables false
set_option linter.unusedSimpArgs false
namespace Go.Proofs.Ytmgdobiloapelaa.Vf
open Go Go.V Go.RowKit

theorem demT_bnd {L P D : List Int} (J : JobsP L P D) {n : Int} (h0 : 0 ≤ n) (h1 : n ≤ 1000) {j : Nat} (hj : j < L.length) : 0 ≤ demT L P D n j ∧ demT L P D n j ≤ 20020 ∧ (rd D j ≤ n → demT L P D n j = rd L j * ((n - rd D j) / rd P j + 1) ∧ 0 ≤ (n - rd D j) / rd P j ∧ (n - rd D j) / rd P j ≤ 1000) := by
  obtain ⟨hL, hPp, hD1, hDP⟩ := J.each j hj
  unfold demT
  by_cases c : rd D j ≤ n
  · rw [if_pos c]
    have a := Int.ediv_nonneg (show 0 ≤ n - rd D j by omega) (show 0 ≤ rd P j by omega)
    have b : (n - rd D j) / rd P j ≤ n - rd D j := Int.ediv_le_self _ (by omega)
    have e := Int.mul_le_mul (show rd L j ≤ 20 by omega) (show (n - rd D j) / rd P j + 1 ≤ 1001 by omega) (by omega) (by omega)
    have e0 := Int.mul_nonneg (show 0 ≤ rd L j by omega) (show 0 ≤ (n - rd D j) / rd P j + 1 by omega)
    exact ⟨e0, e, fun _ => ⟨rfl, a, by omega⟩⟩
  · rw [if_neg c]
    exact ⟨by omega, by omega, fun h => absurd h c⟩

theorem sumZ_bnd {f : Nat → Int} {B : Int} : ∀ {n : Nat}, (∀ j, j < n → 0 ≤ f j ∧ f j ≤ B) → 0 ≤ sumZ f n ∧ sumZ f n ≤ n * B
  | 0, _ => by simp [sumZ]
  | n + 1, h => by
    obtain ⟨a, b⟩ := sumZ_bnd (n := n) fun j hj => h j (by omega)
    have c := h n (by omega)
    simp only [sumZ]
    push_cast
    rw [Int.add_mul, Int.one_mul]
    omega

theorem dem_sum {L P D : List Int} (J : JobsP L P D) {n : Int} (h0 : 0 ≤ n) (h1 : n ≤ 1000) {i : Nat} (hi : i ≤ L.length) : 0 ≤ sumZ (demT L P D n) i ∧ sumZ (demT L P D n) i ≤ 160160 := by
  have := sumZ_bnd (f := demT L P D n) (B := 20020) (n := i) (fun j hj => by have := demT_bnd J h0 h1 (show j < L.length by omega); omega)
  have := J.n8
  omega

theorem implDem_loop {k : Nat} {L P D : List Int} (J : JobsP L P D) {n : Int} (h0 : 0 ≤ n) (h1 : n ≤ 1000) : ∀ (d i f : Nat), L.length - i = d → i ≤ L.length → d < f →
    impl_Jobs_demand.l0 k f n L P D (sumZ (demT L P D n) i) D (D.length : Int) i = some (demJ L P D n) := by
  have hn := J.n8
  have hP := J.hP
  have hD := J.hD
  intro d
  induction d with
  | zero =>
    intro i f hd hi hf
    cases f with
    | zero => omega
    | succ f =>
      simp only [impl_Jobs_demand.l0, impl_Jobs_demand.s0]
      rw [if_neg (by omega), show i = L.length by omega]
      rfl
  | succ d ih =>
    intro i f hd hi hf
    cases f with
    | zero => omega
    | succ f =>
      obtain ⟨b1, b2, b3⟩ := demT_bnd J h0 h1 (show i < L.length by omega)
      have s0 := dem_sum J h0 h1 (show i ≤ L.length by omega)
      obtain ⟨hL, hPp, hD1, hDP⟩ := J.each i (by omega)
      have next := ih (i + 1) f (by omega) (by omega) (by omega)
      simp only [impl_Jobs_demand.l0, impl_Jobs_demand.s0]
      simp only [sumZ] at next
      rw [if_pos (by omega), if_pos (by omega), if_pos (by omega), w64n (by omega)]
      by_cases c : rd D i ≤ n
      · obtain ⟨e, e0, e1⟩ := b3 c
        rw [if_pos c, if_pos (by omega), if_pos (by omega), if_pos (by omega), if_pos (by omega), if_neg (by omega), w64 (x := n - rd D i) (by omega) (by omega), Int.tdiv_eq_ediv_of_nonneg (by omega), w64 (x := (n - rd D i) / rd P i) (by omega) (by omega), w64 (x := (n - rd D i) / rd P i + 1) (by omega) (by omega), ← e, w64 (x := demT L P D n i) (by omega) (by omega), w64 (by omega) (by omega)]
        exact next
      · have e : demT L P D n i = 0 := by unfold demT; exact if_neg c
        rw [e, Int.add_zero] at next
        rw [if_neg c]
        exact next

theorem implDem_f {k : Nat} (hk : 2097152 ≤ k) {L P D : List Int} (J : JobsP L P D) {n : Int} (h0 : 0 ≤ n) (h1 : n ≤ 1000) : impl_Jobs_demand.f k L P D n = some (demJ L P D n) := by
  have hn := J.n8
  unfold impl_Jobs_demand.f impl_Jobs_demand.g
  exact implDem_loop J h0 h1 L.length 0 k rfl (by omega) (by omega)

/-! ### The room -/
def roomF (L P D : List Int) : Nat → Int → Int → Int
  | 0, _, o => o
  | d + 1, n, o => roomF L P D d (n + 1) (minV o (n - demJ L P D n))
def roomJ (L P D : List Int) : Int := roomF L P D (wholeN P - 1) 2 (1 - demJ L P D 1)

theorem minV_le {a b : Int} : 0 ≤ minV a b ↔ 0 ≤ a ∧ 0 ≤ b := by
  unfold minV
  split <;> omega

theorem roomF_iff (L P D : List Int) : ∀ (d : Nat) (n o : Int), 0 ≤ roomF L P D d n o ↔ 0 ≤ o ∧ ∀ m : Int, n ≤ m → m < n + d → demJ L P D m ≤ m
  | 0, n, o => by
    simp only [roomF]
    exact ⟨fun h => ⟨h, fun m h1 h2 => by omega⟩, fun h => h.1⟩
  | d + 1, n, o => by
    simp only [roomF]
    rw [roomF_iff L P D d, minV_le]
    constructor
    · rintro ⟨⟨h1, h2⟩, h3⟩
      refine ⟨h1, fun m h4 h5 => ?_⟩
      by_cases c : m = n
      · subst c; omega
      · exact h3 m (by omega) (by push_cast at h5; omega)
    · rintro ⟨h1, h2⟩
      exact ⟨⟨h1, by have := h2 n (Int.le_refl n) (by push_cast; omega); omega⟩, fun m h4 h5 => h2 m (by omega) (by push_cast; omega)⟩

theorem roomJ_iff {L P D : List Int} (J : JobsP L P D) : 0 ≤ roomJ L P D ↔ (slotsJ L P D).2 < 0 := by
  rw [(jobs_iff J).1]
  obtain ⟨w1, _, _⟩ := J.whole
  unfold roomJ
  rw [roomF_iff]
  constructor
  · rintro ⟨h1, h2⟩ n h3 h4
    by_cases c : n = 1
    · subst c; have h1 : 0 ≤ 1 - demJ L P D ((1 : Nat) : Int) := h1; omega
    · exact h2 n (by omega) (by omega)
  · intro h
    refine ⟨by have := h 1 (by omega) (by omega); have e : ((1 : Nat) : Int) = 1 := rfl; rw [e] at this; omega, fun m h1 h2 => ?_⟩
    obtain ⟨n, rfl⟩ := Int.eq_ofNat_of_zero_le (show 0 ≤ m by omega)
    exact h n (by omega) (by omega)

theorem implRoom_loop {k : Nat} (hk : 2097152 ≤ k) {L P D : List Int} (J : JobsP L P D) (hH : wholeN P ≤ 240) : ∀ (d : Nat) (n o : Int) (f : Nat), 1 ≤ n → n + d = (wholeN P : Int) + 1 → d < f →
    impl_Jobs_room.l0 k f L P D o n = some (roomF L P D d n o) := by
  intro d
  induction d with
  | zero =>
    intro n o f h1 h2 hf
    cases f with
    | zero => omega
    | succ f =>
      simp only [impl_Jobs_room.l0, impl_Jobs_room.s0]
      rw [whole_f hk J, Option.bind_some, if_neg (by omega)]
      rfl
  | succ d ih =>
    intro n o f h1 h2 hf
    cases f with
    | zero => omega
    | succ f =>
      have b := dem_sum J (show 0 ≤ n by omega) (show n ≤ 1000 by omega) (Nat.le_refl L.length)
      simp only [impl_Jobs_room.l0, impl_Jobs_room.s0]
      rw [whole_f hk J, Option.bind_some, if_pos (by omega), implDem_f hk J (by omega) (by omega), Option.bind_some, w64 (x := n - demJ L P D n) (by unfold demJ; omega) (by unfold demJ; omega), w64 (by omega) (by omega)]
      exact ih (n + 1) _ f (by omega) (by omega) (by omega)

theorem implRoom_f {k : Nat} (hk : 2097152 ≤ k) {L P D : List Int} (J : JobsP L P D) (hH : wholeN P ≤ 240) : impl_Jobs_room.f k L P D = some (roomJ L P D) := by
  obtain ⟨w1, _, _⟩ := J.whole
  have b := dem_sum J (show (0 : Int) ≤ 1 by omega) (show (1 : Int) ≤ 1000 by omega) (Nat.le_refl L.length)
  unfold impl_Jobs_room.f impl_Jobs_room.g
  rw [implDem_f hk J (by omega) (by omega), Option.bind_some, w64 (x := 1 - demJ L P D 1) (by unfold demJ; omega) (by unfold demJ; omega)]
  exact implRoom_loop hk J hH (wholeN P - 1) 2 _ k (by omega) (by omega) (by omega)

/-! ### The load -/
theorem cop_eq {a b c d : Nat} (hb : 0 < b) (hd : 0 < d) (h1 : Nat.Coprime a b) (h2 : Nat.Coprime c d) (h : a * d = c * b) : a = c ∧ b = d := by
  have e1 : b ∣ d := Nat.Coprime.dvd_of_dvd_mul_left (k := b) (m := a) h1.symm ⟨c, by rw [h, Nat.mul_comm]⟩
  have e2 : d ∣ b := Nat.Coprime.dvd_of_dvd_mul_left (k := d) (m := c) h2.symm ⟨a, by rw [← h, Nat.mul_comm]⟩
  obtain rfl := Nat.dvd_antisymm e1 e2
  exact ⟨Nat.eq_of_mul_eq_mul_right hb h, rfl⟩
theorem low_mul {a b : Nat} (hb : 0 < b) : a / Nat.gcd a b * Nat.gcd a b = a ∧ b / Nat.gcd a b * Nat.gcd a b = b ∧ 0 < b / Nat.gcd a b ∧ Nat.Coprime (a / Nat.gcd a b) (b / Nat.gcd a b) := by
  refine ⟨Nat.div_mul_cancel (Nat.gcd_dvd_left a b), Nat.div_mul_cancel (Nat.gcd_dvd_right a b), ?_, Nat.coprime_div_gcd_div_gcd (Nat.gcd_pos_of_pos_right a hb)⟩
  exact Nat.div_pos (Nat.le_of_dvd hb (Nat.gcd_dvd_right a b)) (Nat.gcd_pos_of_pos_right a hb)

/-- The slots that i tasks want in H slots. -/
def numN (L P : List Int) (H : Nat) : Nat → Nat
  | 0 => 0
  | i + 1 => numN L P H i + (rd L i).toNat * (H / (rd P i).toNat)

theorem numN_bnd {L P D : List Int} (J : JobsP L P D) {H : Nat} (hH : H ≤ 167961600000000) : ∀ i, i ≤ L.length → numN L P H i ≤ i * 3359232000000000
  | 0, _ => by simp [numN]
  | i + 1, hi => by
    have a := numN_bnd J hH i (by omega)
    have b := (J.each i (by omega)).1
    have c : (rd L i).toNat * (H / (rd P i).toNat) ≤ 20 * 167961600000000 := Nat.mul_le_mul (by omega) (Nat.le_trans (Nat.div_le_self _ _) hH)
    simp only [numN]
    omega

theorem implLoad_loop {k : Nat} (hk : 2097152 ≤ k) {L P D : List Int} (J : JobsP L P D) : ∀ (d i f : Nat), L.length - i = d → i ≤ L.length → d < f →
    impl_Jobs_load.l0 k f L P D (wholeN P : Int) (numN L P (wholeN P) i : Int) P (P.length : Int) i = some (((numN L P (wholeN P) L.length / Nat.gcd (numN L P (wholeN P) L.length) (wholeN P) : Nat) : Int), ((wholeN P / Nat.gcd (numN L P (wholeN P) L.length) (wholeN P) : Nat) : Int)) := by
  have hn := J.n8
  have hP := J.hP
  obtain ⟨w1, w2, w3⟩ := J.whole
  intro d
  induction d with
  | zero =>
    intro i f hd hi hf
    cases f with
    | zero => omega
    | succ f =>
      have b := numN_bnd J w2 L.length (Nat.le_refl _)
      have hg := Nat.gcd_pos_of_pos_right (numN L P (wholeN P) L.length) w1
      have d1 := Nat.div_le_self (numN L P (wholeN P) L.length) (Nat.gcd (numN L P (wholeN P) L.length) (wholeN P))
      have d2 := Nat.div_le_self (wholeN P) (Nat.gcd (numN L P (wholeN P) L.length) (wholeN P))
      simp only [impl_Jobs_load.l0, impl_Jobs_load.s0]
      rw [if_neg (by omega), show i = L.length by omega, divisor_f hk (by omega), Option.bind_some, if_neg (by omega), if_neg (by omega), tdivN, tdivN, w64 (x := ((numN L P (wholeN P) L.length / Nat.gcd (numN L P (wholeN P) L.length) (wholeN P) : Nat) : Int)) (Int.le_trans (by decide) (Int.natCast_nonneg _)) (by omega), w64 (x := ((wholeN P / Nat.gcd (numN L P (wholeN P) L.length) (wholeN P) : Nat) : Int)) (Int.le_trans (by decide) (Int.natCast_nonneg _)) (by omega)]
  | succ d ih =>
    intro i f hd hi hf
    cases f with
    | zero => omega
    | succ f =>
      have b := numN_bnd J w2 i (by omega)
      have b2 := numN_bnd J w2 (i + 1) (by omega)
      obtain ⟨hL, hPp, hD1, hDP⟩ := J.each i (by omega)
      obtain ⟨p, hp⟩ := Int.eq_ofNat_of_zero_le (show 0 ≤ rd P i by omega)
      obtain ⟨l, hl⟩ := Int.eq_ofNat_of_zero_le (show 0 ≤ rd L i by omega)
      have d2 := Nat.div_le_self (wholeN P) p
      have e1 : numN L P (wholeN P) (i + 1) = numN L P (wholeN P) i + l * (wholeN P / p) := by simp only [numN]; rw [hp, hl, Int.toNat_natCast, Int.toNat_natCast]
      have next := ih (i + 1) f (by omega) (by omega) (by omega)
      simp only [impl_Jobs_load.l0, impl_Jobs_load.s0]
      rw [e1] at next b2
      rw [if_pos (by omega), if_pos (by omega), if_pos (by omega), if_pos (by omega), if_pos (by omega), if_neg (by omega), hp, hl, tdivN, w64 (x := ((wholeN P / p : Nat) : Int)) (Int.le_trans (by decide) (Int.natCast_nonneg _)) (by omega), ← Int.natCast_mul, w64 (x := ((l * (wholeN P / p) : Nat) : Int)) (Int.le_trans (by decide) (Int.natCast_nonneg _)) (by omega), ← Int.natCast_add, w64 (x := ((numN L P (wholeN P) i + l * (wholeN P / p) : Nat) : Int)) (Int.le_trans (by decide) (Int.natCast_nonneg _)) (by omega), w64n (by omega)]
      exact next

theorem implLoad_f {k : Nat} (hk : 2097152 ≤ k) {L P D : List Int} (J : JobsP L P D) : impl_Jobs_load.f k L P D = some (((numN L P (wholeN P) L.length / Nat.gcd (numN L P (wholeN P) L.length) (wholeN P) : Nat) : Int), ((wholeN P / Nat.gcd (numN L P (wholeN P) L.length) (wholeN P) : Nat) : Int)) := by
  have hn := J.n8
  unfold impl_Jobs_load.f impl_Jobs_load.g
  rw [whole_f hk J, Option.bind_some]
  exact implLoad_loop hk J L.length 0 k rfl (by omega) (by omega)

def loadJ (L P D : List Int) : Int × Int × Int := if jobsOk L P D = true then (((numN L P (wholeN P) L.length / Nat.gcd (numN L P (wholeN P) L.length) (wholeN P) : Nat) : Int), ((wholeN P / Nat.gcd (numN L P (wholeN P) L.length) (wholeN P) : Nat) : Int), 0) else (0, 0, 1)

/-- The demand of a whole period. -/
theorem dem_whole {L P D : List Int} (J : JobsP L P D) : demJ L P D (wholeN P : Int) = (numN L P (wholeN P) L.length : Int) := by
  obtain ⟨w1, w2, w3⟩ := J.whole
  have : ∀ i, i ≤ L.length → sumZ (demT L P D (wholeN P : Int)) i = (numN L P (wholeN P) i : Int) := by
    intro i
    induction i with
    | zero => intro _; rfl
    | succ i ih =>
      intro hi
      obtain ⟨hL, hPp, hD1, hDP⟩ := J.each i (by omega)
      have hdv := w3 i (by omega)
      obtain ⟨p, hp⟩ := Int.eq_ofNat_of_zero_le (show 0 ≤ rd P i by omega)
      obtain ⟨l, hl⟩ := Int.eq_ofNat_of_zero_le (show 0 ≤ rd L i by omega)
      rw [hp, Int.toNat_natCast] at hdv
      have hq := Nat.mul_div_cancel' hdv
      have hpl := Nat.le_of_dvd w1 hdv
      simp only [sumZ, numN]
      rw [ih (by omega), hp, hl, Int.toNat_natCast, Int.toNat_natCast]
      unfold demT
      rw [if_pos (by omega), hp, hl]
      have e : ((wholeN P : Int) - rd D i) / (p : Int) = ((wholeN P / p : Nat) : Int) - 1 := by
        have hq' : (p : Int) * ((wholeN P / p : Nat) : Int) = (wholeN P : Int) := by rw [← Int.natCast_mul, hq]
        refine ediv_uniq (by omega) ?_ ?_
        · rw [Int.mul_sub, Int.mul_one, hq']; omega
        · rw [Int.mul_sub, Int.mul_one, hq']; omega
      rw [e, Int.sub_add_cancel]
      push_cast
      rfl
  exact this L.length (Nat.le_refl _)

theorem load_le {L P D : List Int} (J : JobsP L P D) (h : 0 ≤ roomJ L P D) : ((numN L P (wholeN P) L.length / Nat.gcd (numN L P (wholeN P) L.length) (wholeN P) : Nat) : Int) ≤ ((wholeN P / Nat.gcd (numN L P (wholeN P) L.length) (wholeN P) : Nat) : Int) := by
  obtain ⟨w1, w2, w3⟩ := J.whole
  have h1 := (jobs_iff J).1.1 ((roomJ_iff J).1 h) (wholeN P) (by omega) (Nat.le_refl _)
  rw [dem_whole J] at h1
  exact Int.ofNat_le.2 (Nat.div_le_div_right (by omega))

end Go.Proofs.Ytmgdobiloapelaa.Vf
