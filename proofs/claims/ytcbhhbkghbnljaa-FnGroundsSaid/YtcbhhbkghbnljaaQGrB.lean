/- Least rounds: a search with recursion and a table of sets give the same. -/
import Derived.Test.YtcbhhbkghbnljaaQGrA
set_option linter.unusedVariables false
set_option linter.unusedSimpArgs false
namespace Go.Proofs.Ytcbhhbkghbnljaa.Vf
open Go Go.V Go.RowKit

/-! ### Sets as numbers -/

theorem bit_rem : ∀ s, s < 64 → ∀ p, p < 6 → s.testBit p = true → 2 ^ p ≤ s ∧ ∀ x, x < 6 → (s - 2 ^ p).testBit x = (s.testBit x && !decide (x = p)) := by decide +kernel
theorem bit_add : ∀ s, s < 64 → ∀ p, p < 6 → s.testBit p = false → s + 2 ^ p < 64 ∧ ∀ x, x < 6 → (s + 2 ^ p).testBit x = (s.testBit x || decide (x = p)) := by decide +kernel
theorem bit_addn0 : ∀ n, n < 7 → ∀ s, s < 64 → ∀ p, p < 6 → (decide (s < 2 ^ n) && (decide (p < n) && !s.testBit p)) = true → s + 2 ^ p < 2 ^ n := by decide +kernel
theorem bit_addn (n : Nat) (hn : n < 7) (s : Nat) (hs : s < 64) (p : Nat) (hp : p < 6) (h1 : s < 2 ^ n) (h2 : p < n) (h3 : s.testBit p = false) : s + 2 ^ p < 2 ^ n := bit_addn0 n hn s hs p hp (by simp [h1, h2, h3])
theorem bit_full0 : ∀ n, n < 7 → ∀ s, s < 64 → ∀ p, p < 6 → (decide (s < 2 ^ n) && decide (p < n)) = true → (2 ^ n - 1 - s).testBit p = !s.testBit p := by decide +kernel
theorem bit_full (n : Nat) (hn : n < 7) (s : Nat) (hs : s < 64) (p : Nat) (hp : p < 6) (h1 : s < 2 ^ n) (h2 : p < n) : (2 ^ n - 1 - s).testBit p = !s.testBit p := bit_full0 n hn s hs p hp (by simp [h1, h2])
theorem bit_ex : ∀ n, n < 7 → ∀ s, s < 64 → s < 2 ^ n → s ≠ 0 → ∃ p, p < n ∧ s.testBit p = true := by
  intro n hn s hs h h0
  obtain ⟨p, hp⟩ := Nat.exists_testBit_of_ne_zero h0
  refine ⟨p, ?_, hp⟩
  by_cases hpn : p < n
  · exact hpn
  · rw [Nat.testBit_lt_two_pow (Nat.lt_of_lt_of_le h (Nat.pow_le_pow_right (by omega) (by omega)))] at hp
    cases hp
theorem pow64 {n : Nat} (hn : n ≤ 6) : 2 ^ n ≤ 64 := Nat.pow_le_pow_right (n := 2) (by omega) hn

/-! ### The search with recursion -/

def tl (D g : Nat → Nat → Int) (a s : Nat) : Nat → Nat → Int → Int
  | _, 0, b => b
  | i, d + 1, b => if s.testBit i = true then tl D g a s (i + 1) d (if b < 0 ∨ D a i + g i (s - 2 ^ i) < b then D a i + g i (s - 2 ^ i) else b) else tl D g a s (i + 1) d b

def tour (D : Nat → Nat → Int) (n : Nat) : Nat → Nat → Nat → Int
  | 0, a, _ => D a 0
  | f + 1, a, s => if s = 0 then D a 0 else tl D (tour D n f) a s 0 n (-1)

theorem tl_ok {D g : Nat → Nat → Int} {a s : Nat} {n : Nat} (hg : ∀ p, p < n → s.testBit p = true → 0 ≤ D a p + g p (s - 2 ^ p)) : ∀ (d i : Nat) (b : Int), i + d = n →
    (0 ≤ b → 0 ≤ tl D g a s i d b ∧ tl D g a s i d b ≤ b) ∧ (∀ p, i ≤ p → p < n → s.testBit p = true → 0 ≤ tl D g a s i d b ∧ tl D g a s i d b ≤ D a p + g p (s - 2 ^ p)) ∧
    (tl D g a s i d b = b ∨ ∃ p, p < n ∧ s.testBit p = true ∧ tl D g a s i d b = D a p + g p (s - 2 ^ p))
  | 0, i, b, hd => ⟨fun h => ⟨h, Int.le_refl _⟩, fun p h1 h2 => by omega, Or.inl rfl⟩
  | d + 1, i, b, hd => by
    unfold tl
    by_cases hb : s.testBit i = true
    · rw [if_pos hb]
      have h0 := hg i (by omega) hb
      obtain ⟨i1, i2, i3⟩ := tl_ok hg d (i + 1) (if b < 0 ∨ D a i + g i (s - 2 ^ i) < b then D a i + g i (s - 2 ^ i) else b) (by omega)
      have hb0 : 0 ≤ (if b < 0 ∨ D a i + g i (s - 2 ^ i) < b then D a i + g i (s - 2 ^ i) else b) ∧ (if b < 0 ∨ D a i + g i (s - 2 ^ i) < b then D a i + g i (s - 2 ^ i) else b) ≤ D a i + g i (s - 2 ^ i) := by split <;> omega
      have j1 := i1 hb0.1
      refine ⟨fun h => ⟨j1.1, Int.le_trans j1.2 (by split <;> omega)⟩, fun p h1 h2 h3 => ?_, ?_⟩
      · by_cases e : p = i
        · subst e; exact ⟨j1.1, Int.le_trans j1.2 hb0.2⟩
        · exact i2 p (by omega) h2 h3
      · rcases i3 with i3 | i3
        · by_cases c : b < 0 ∨ D a i + g i (s - 2 ^ i) < b
          · right; exact ⟨i, by omega, hb, by rw [i3, if_pos c]⟩
          · left; rw [i3, if_neg c]
        · exact Or.inr i3
    · rw [if_neg hb]
      obtain ⟨i1, i2, i3⟩ := tl_ok hg d (i + 1) b (by omega)
      exact ⟨i1, fun p h1 h2 h3 => i2 p (Nat.lt_of_le_of_ne h1 fun e => hb (by rw [e]; exact h3)) h2 h3, i3⟩

/-- What is asked of distances. -/
structure Ds (D : Nat → Nat → Int) (n : Nat) : Prop where
  n1 : 1 ≤ n
  n6 : n ≤ 6
  nn : ∀ i j, i < n → j < n → 0 ≤ D i j

theorem tour_nn {D : Nat → Nat → Int} {n : Nat} (H : Ds D n) : ∀ (f a s : Nat), a < n → s < 2 ^ n → 0 ≤ tour D n f a s ∧ (s ≠ 0 → (∀ p, p < n → s.testBit p = true → tour D n (f + 1) a s ≤ D a p + tour D n f p (s - 2 ^ p)) ∧ ∃ p, p < n ∧ s.testBit p = true ∧ tour D n (f + 1) a s = D a p + tour D n f p (s - 2 ^ p)) := by
  have step : ∀ f, (∀ a s, a < n → s < 2 ^ n → 0 ≤ tour D n f a s) → ∀ a s, a < n → s < 2 ^ n → s ≠ 0 → 0 ≤ tour D n (f + 1) a s ∧ (∀ p, p < n → s.testBit p = true → tour D n (f + 1) a s ≤ D a p + tour D n f p (s - 2 ^ p)) ∧ ∃ p, p < n ∧ s.testBit p = true ∧ tour D n (f + 1) a s = D a p + tour D n f p (s - 2 ^ p) := by
    intro f ih a s ha hs h0
    have := pow64 H.n6
    have hg : ∀ p, p < n → s.testBit p = true → 0 ≤ D a p + tour D n f p (s - 2 ^ p) := fun p hp hb => by
      have e1 := H.nn a p ha hp
      have p0 := Nat.two_pow_pos p
      have e2 := ih p (s - 2 ^ p) hp (by omega)
      omega
    obtain ⟨i1, i2, i3⟩ := tl_ok (n := n) hg n 0 (-1) (by omega)
    obtain ⟨p, hp, hb⟩ := bit_ex n (by have := H.n6; omega) s (by omega) hs h0
    have e : tour D n (f + 1) a s = tl D (tour D n f) a s 0 n (-1) := by rw [tour, if_neg h0]
    rw [e]
    have j := i2 p (by omega) hp hb
    refine ⟨j.1, fun q hq hbq => (i2 q (by omega) hq hbq).2, ?_⟩
    rcases i3 with i3 | i3
    · omega
    · exact i3
  have nn : ∀ f a s, a < n → s < 2 ^ n → 0 ≤ tour D n f a s := by
    intro f
    induction f with
    | zero => intro a s ha hs; exact H.nn a 0 ha (by have := H.n1; omega)
    | succ f ih =>
      intro a s ha hs
      by_cases h0 : s = 0
      · rw [tour, if_pos h0]; exact H.nn a 0 ha (by have := H.n1; omega)
      · exact (step f ih a s ha hs h0).1
  intro f a s ha hs
  exact ⟨nn f a s ha hs, fun h0 => (step f (nn f) a s ha hs h0).2⟩

theorem tour_le {D : Nat → Nat → Int} {n : Nat} (H : Ds D n) {f a s p : Nat} (ha : a < n) (hs : s < 2 ^ n) (hp : p < n) (hb : s.testBit p = true) : tour D n (f + 1) a s ≤ D a p + tour D n f p (s - 2 ^ p) :=
  ((tour_nn H f a s ha hs).2 (fun e => by rw [e] at hb; simp at hb)).1 p hp hb
theorem tour_eq {D : Nat → Nat → Int} {n : Nat} (H : Ds D n) {f a s : Nat} (ha : a < n) (hs : s < 2 ^ n) (h0 : s ≠ 0) : ∃ p, p < n ∧ s.testBit p = true ∧ tour D n (f + 1) a s = D a p + tour D n f p (s - 2 ^ p) := ((tour_nn H f a s ha hs).2 h0).2
theorem tour_zero {D : Nat → Nat → Int} {n f a : Nat} : tour D n f a 0 = D a 0 := by cases f <;> rfl

/-- The walk of a tour. -/
theorem tour_walk {nr : Nat → Nat → Bool} {n : Nat} (H : Ds (dis nr n) n) : ∀ (f a s : Nat), s < f → s < 2 ^ n → a < n → ∃ l, (l.length : Int) = tour (dis nr n) n f a s ∧ Wk nr n a l 0 ∧ ∀ x, x < n → s.testBit x = true → x ∈ l ∨ x = 0
  | 0, _, _, h, _, _ => by omega
  | f + 1, a, s, h, hs, ha => by
    have h1 := H.n1
    by_cases h0 : s = 0
    · subst h0
      rw [tour_zero]
      obtain ⟨l, hl, w⟩ := dis_wk ha (show 0 < n by omega) (H.nn a 0 ha (by omega))
      exact ⟨l, hl, w, fun x hx hb => by simp at hb⟩
    · obtain ⟨p, hp, hb, e⟩ := tour_eq H (f := f) ha hs h0
      have h6 := H.n6
      have h64 := pow64 h6
      obtain ⟨b1, b2⟩ := bit_rem s (by omega) p (by omega) hb
      have b3 : 0 < 2 ^ p := Nat.two_pow_pos p
      obtain ⟨l, hl, w⟩ := dis_wk ha hp (H.nn a p ha hp)
      obtain ⟨m, hm, w', hv⟩ := tour_walk H f p (s - 2 ^ p) (by omega) (by omega) hp
      refine ⟨l ++ m, by rw [e, List.length_append]; omega, w.app w', fun x hx hbx => ?_⟩
      by_cases ex : x = p
      · subst ex
        match m, w' with
        | [], w' => exact Or.inr w'
        | y :: m, w' => exact Or.inl (List.mem_append_right _ (by rw [w'.1]; exact List.mem_cons_self ..))
      · rcases hv x hx (by rw [b2 x (by omega), hbx]; simp [ex]) with c | c
        · exact Or.inl (List.mem_append_right _ c)
        · exact Or.inr c

/-! ### The table of sets -/

def rlx (D : Nat → Nat → Int) (n s i : Nat) (own : Int) (j : Nat) (L : List Int) : List Int :=
  if s.testBit j = false ∧ 0 ≤ D i j ∧ (L.getD ((s + 2 ^ j) * n + j) 0 < 0 ∨ own + D i j < L.getD ((s + 2 ^ j) * n + j) 0) then L.set ((s + 2 ^ j) * n + j) (own + D i j) else L
def rj (D : Nat → Nat → Int) (n s i : Nat) (own : Int) : Nat → Nat → List Int → List Int
  | _, 0, L => L
  | j, d + 1, L => rj D n s i own (j + 1) d (rlx D n s i own j L)
def ri (D : Nat → Nat → Int) (n s : Nat) : Nat → Nat → List Int → List Int
  | _, 0, L => L
  | i, d + 1, L => ri D n s (i + 1) d (if L.getD (s * n + i) 0 < 0 then L else rj D n s i (L.getD (s * n + i) 0) 0 n L)
def rs (D : Nat → Nat → Int) (n : Nat) : Nat → Nat → List Int → List Int
  | _, 0, L => L
  | s, d + 1, L => rs D n (s + 1) d (ri D n s 0 n L)
def table (D : Nat → Nat → Int) (n : Nat) : List Int := rs D n 1 (2 ^ n - 1) ((List.replicate (n * 2 ^ n) (-1)).set n 0)
def bst (D : Nat → Nat → Int) (n : Nat) (L : List Int) : Nat → Nat → Int → Int
  | _, 0, b => b
  | i, d + 1, b => bst D n L (i + 1) d (if 0 ≤ L.getD ((2 ^ n - 1) * n + i) 0 ∧ (b < 0 ∨ L.getD ((2 ^ n - 1) * n + i) 0 + D i 0 < b) then L.getD ((2 ^ n - 1) * n + i) 0 + D i 0 else b)

theorem idx_lt {n s t i j : Nat} (h : s < t) (hi : i < n) : s * n + i < t * n + j := by
  have := Nat.mul_le_mul_right n (show s + 1 ≤ t by omega)
  rw [Nat.add_mul, Nat.one_mul] at this
  omega
theorem idx_inj {n s t i j : Nat} (hi : i < n) (hj : j < n) (h : s * n + i = t * n + j) : s = t ∧ i = j := by
  have e : s = t := by
    rcases Nat.lt_trichotomy s t with c | c | c
    · have := idx_lt (j := j) c hi; omega
    · exact c
    · have := idx_lt (j := i) c hj; omega
  subst e
  exact ⟨rfl, by omega⟩
theorem idx_bnd {n s i : Nat} (h : s < 2 ^ n) (hi : i < n) : s * n + i < n * 2 ^ n := by
  rw [Nat.mul_comm n]
  exact idx_lt (j := 0) h hi

def Rl (D : Nat → Nat → Int) (n : Nat) (L : List Int) (s i j : Nat) : Prop :=
  0 ≤ L.getD (s * n + i) 0 → s.testBit j = false → 0 ≤ D i j → 0 ≤ L.getD ((s + 2 ^ j) * n + j) 0 ∧ L.getD ((s + 2 ^ j) * n + j) 0 ≤ L.getD (s * n + i) 0 + D i j

structure Dp (D : Nat → Nat → Int) (n : Nat) (Q : Nat → Nat → Int → Prop) (s i j : Nat) (L : List Int) : Prop where
  len : L.length = n * 2 ^ n
  q : ∀ s i, s < 2 ^ n → i < n → 0 ≤ L.getD (s * n + i) 0 → Q s i (L.getD (s * n + i) 0)
  rl : ∀ s' i' j', s' < 2 ^ n → i' < n → j' < n → 1 ≤ s' → (s' < s ∨ s' = s ∧ (i' < i ∨ i' = i ∧ j' < j)) → Rl D n L s' i' j'
  one : L.getD n 0 = 0

structure Qok (D : Nat → Nat → Int) (n : Nat) (Q : Nat → Nat → Int → Prop) : Prop where
  n1 : 1 ≤ n
  n6 : n ≤ 6
  st : ∀ s i j c, s < 2 ^ n → i < n → j < n → Q s i c → s.testBit j = false → 0 ≤ D i j → Q (s + 2 ^ j) j (c + D i j)

theorem Dp.relax {D : Nat → Nat → Int} {n : Nat} {Q : Nat → Nat → Int → Prop} (K : Qok D n Q) {s i j : Nat} {L : List Int} (P : Dp D n Q s i j L) (h1 : 1 ≤ s) (hs : s < 2 ^ n) (hi : i < n) (hj : j < n) (h0 : 0 ≤ L.getD (s * n + i) 0) :
    Dp D n Q s i (j + 1) (rlx D n s i (L.getD (s * n + i) 0) j L) ∧ (rlx D n s i (L.getD (s * n + i) 0) j L).getD (s * n + i) 0 = L.getD (s * n + i) 0 := by
  have n6 := K.n6
  have h64 := pow64 n6
  unfold rlx
  by_cases c : s.testBit j = false ∧ 0 ≤ D i j ∧ (L.getD ((s + 2 ^ j) * n + j) 0 < 0 ∨ L.getD (s * n + i) 0 + D i j < L.getD ((s + 2 ^ j) * n + j) 0)
  · rw [if_pos c]
    obtain ⟨c1, c2, c3⟩ := c
    have p0 : 0 < 2 ^ j := Nat.two_pow_pos j
    have hb := bit_addn n (by omega) s (by omega) j (by omega) hs hj c1
    have hbd : ∀ s' i', s' < 2 ^ n → i' < n → s' * n + i' < L.length := fun s' i' a b => by rw [P.len]; exact idx_bnd a b
    have g : ∀ s' i', s' < 2 ^ n → i' < n → (L.set ((s + 2 ^ j) * n + j) (L.getD (s * n + i) 0 + D i j)).getD (s' * n + i') 0 = if (s + 2 ^ j) * n + j = s' * n + i' then L.getD (s * n + i) 0 + D i j else L.getD (s' * n + i') 0 := fun s' i' a b => getD_set (hbd s' i' a b)
    have old : ∀ s' i', s' ≤ s → i' < n → (L.set ((s + 2 ^ j) * n + j) (L.getD (s * n + i) 0 + D i j)).getD (s' * n + i') 0 = L.getD (s' * n + i') 0 := fun s' i' a b => by
      rw [g s' i' (by omega) b, if_neg (by have := idx_lt (n := n) (s := s') (t := s + 2 ^ j) (i := i') (j := j) (by omega) b; omega)]
    refine ⟨{ len := by rw [List.length_set]; exact P.len, q := ?_, rl := ?_, one := ?_ }, old s i (Nat.le_refl _) hi⟩
    · intro s' i' a b
      rw [g s' i' a b]
      by_cases e : (s + 2 ^ j) * n + j = s' * n + i'
      · rw [if_pos e]
        obtain ⟨rfl, rfl⟩ := idx_inj hj b e
        intro _
        exact K.st s i j _ hs hi hj (P.q s i hs hi h0) c1 c2
      · rw [if_neg e]; exact P.q s' i' a b
    · intro s' i' j' a b d e hbf
      unfold Rl
      have les : s' ≤ s := by omega
      rw [old s' i' les b]
      intro f1 f2 f3
      have hb' := bit_addn n (by omega) s' (by omega) j' (by omega) a d f2
      rw [g (s' + 2 ^ j') j' hb' d]
      by_cases cur : s' = s ∧ i' = i ∧ j' = j
      · obtain ⟨rfl, rfl, rfl⟩ := cur
        rw [if_pos rfl]; omega
      · have r := P.rl s' i' j' a b d e (by omega) f1 f2 f3
        by_cases e' : (s + 2 ^ j) * n + j = (s' + 2 ^ j') * n + j'
        · rw [if_pos e']
          rw [← e'] at r
          omega
        · rw [if_neg e']; exact r
    · have := old 1 0 (by omega) (by omega)
      rw [show 1 * n + 0 = n by omega] at this
      rw [this]; exact P.one
  · rw [if_neg c]
    refine ⟨{ P with rl := ?_ }, rfl⟩
    intro s' i' j' a b d e hbf
    by_cases cur : s' = s ∧ i' = i ∧ j' = j
    · obtain ⟨rfl, rfl, rfl⟩ := cur
      intro f1 f2 f3
      have : ¬ (L.getD ((s' + 2 ^ j') * n + j') 0 < 0 ∨ L.getD (s' * n + i') 0 + D i' j' < L.getD ((s' + 2 ^ j') * n + j') 0) := fun x => c ⟨f2, f3, x⟩
      omega
    · exact P.rl s' i' j' a b d e (by omega)

theorem rj_ok {D : Nat → Nat → Int} {n : Nat} {Q : Nat → Nat → Int → Prop} (K : Qok D n Q) {s i : Nat} (h1 : 1 ≤ s) (hs : s < 2 ^ n) (hi : i < n) (own : Int) (h0 : 0 ≤ own) : ∀ (d j : Nat) (L : List Int), j + d = n → L.getD (s * n + i) 0 = own → Dp D n Q s i j L → Dp D n Q s i n (rj D n s i own j d L)
  | 0, j, L, hd, ho, P => by obtain rfl : j = n := hd; exact P
  | d + 1, j, L, hd, ho, P => by
    subst ho
    obtain ⟨a, b⟩ := P.relax K h1 hs hi (by omega) h0
    exact rj_ok K h1 hs hi _ h0 d (j + 1) _ (by omega) b a

theorem Dp.mono {D : Nat → Nat → Int} {n : Nat} {Q : Nat → Nat → Int → Prop} {s i j s' i' j' : Nat} {L : List Int} (P : Dp D n Q s i j L) (h : ∀ a b c, a < 2 ^ n → b < n → c < n → 1 ≤ a → (a < s' ∨ a = s' ∧ (b < i' ∨ b = i' ∧ c < j')) → (a < s ∨ a = s ∧ (b < i ∨ b = i ∧ c < j)) ∨ Rl D n L a b c) : Dp D n Q s' i' j' L :=
  { P with rl := fun a b c ha hb hc h1 hh => (h a b c ha hb hc h1 hh).elim (P.rl a b c ha hb hc h1) id }

theorem ri_ok {D : Nat → Nat → Int} {n : Nat} {Q : Nat → Nat → Int → Prop} (K : Qok D n Q) {s : Nat} (h1 : 1 ≤ s) (hs : s < 2 ^ n) : ∀ (d i : Nat) (L : List Int), i + d = n → Dp D n Q s i 0 L → Dp D n Q s n 0 (ri D n s i d L)
  | 0, i, L, hd, P => by obtain rfl : i = n := hd; exact P
  | d + 1, i, L, hd, P => by
    refine ri_ok K h1 hs d (i + 1) _ (by omega) ?_
    by_cases c : L.getD (s * n + i) 0 < 0
    · rw [if_pos c]
      refine P.mono fun a b e ha hb he _ hh => ?_
      by_cases x : a = s ∧ b = i
      · obtain ⟨rfl, rfl⟩ := x
        exact Or.inr fun f => by omega
      · exact Or.inl (by omega)
    · rw [if_neg c]
      exact (rj_ok K h1 hs (by omega) _ (by omega) n 0 L (by omega) rfl P).mono fun a b e ha hb he _ hh => Or.inl (by omega)

theorem rs_ok {D : Nat → Nat → Int} {n : Nat} {Q : Nat → Nat → Int → Prop} (K : Qok D n Q) : ∀ (d s : Nat) (L : List Int), s + d = 2 ^ n → 1 ≤ s → Dp D n Q s 0 0 L → Dp D n Q (2 ^ n) 0 0 (rs D n s d L)
  | 0, s, L, hd, _, P => by obtain rfl : s = 2 ^ n := hd; exact P
  | d + 1, s, L, hd, h1, P => rs_ok K d (s + 1) _ (by omega) (by omega) ((ri_ok K h1 (by omega) n 0 L (by omega) P).mono fun a b e ha hb he _ hh => Or.inl (by omega))

theorem start_ok {D : Nat → Nat → Int} {n : Nat} {Q : Nat → Nat → Int → Prop} (K : Qok D n Q) (h : Q 1 0 0) : Dp D n Q 1 0 0 ((List.replicate (n * 2 ^ n) (-1)).set n 0) := by
  have n1 := K.n1
  have p1 : 2 ≤ 2 ^ n := Nat.pow_le_pow_right (n := 2) (by omega) n1
  have g : ∀ s' i', s' < 2 ^ n → i' < n → ((List.replicate (n * 2 ^ n) (-1 : Int)).set n 0).getD (s' * n + i') 0 = if n = s' * n + i' then 0 else -1 := fun s' i' a b => by
    have hb := idx_bnd a b
    rw [getD_set (by simpa using hb), List.getD_eq_getElem?_getD, List.getElem?_replicate, if_pos hb]; rfl
  refine { len := by simp, q := ?_, rl := ?_, one := ?_ }
  · intro s i hs hi
    rw [g s i hs hi]
    by_cases e : n = s * n + i
    · rw [if_pos e]
      obtain ⟨rfl, rfl⟩ := idx_inj (n := n) (s := 1) (t := s) (i := 0) (j := i) (by omega) hi (by omega)
      exact fun _ => h
    · rw [if_neg e]; intro x; omega
  · intro s' i' j' _ _ _ h1 hh; omega
  · have := g 1 0 (by omega) (by omega)
    rw [show 1 * n + 0 = n by omega, if_pos rfl] at this
    exact this

theorem bst_ok {D : Nat → Nat → Int} {n : Nat} {L : List Int} (nn : ∀ i, i < n → 0 ≤ L.getD ((2 ^ n - 1) * n + i) 0 → 0 ≤ D i 0) : ∀ (d i : Nat) (b : Int), i + d = n →
    (0 ≤ b → 0 ≤ bst D n L i d b ∧ bst D n L i d b ≤ b) ∧ (∀ p, i ≤ p → p < n → 0 ≤ L.getD ((2 ^ n - 1) * n + p) 0 → 0 ≤ bst D n L i d b ∧ bst D n L i d b ≤ L.getD ((2 ^ n - 1) * n + p) 0 + D p 0) ∧
    (bst D n L i d b = b ∨ ∃ p, p < n ∧ 0 ≤ L.getD ((2 ^ n - 1) * n + p) 0 ∧ bst D n L i d b = L.getD ((2 ^ n - 1) * n + p) 0 + D p 0)
  | 0, i, b, hd => ⟨fun h => ⟨h, Int.le_refl _⟩, fun p h1 h2 => by omega, Or.inl rfl⟩
  | d + 1, i, b, hd => by
    unfold bst
    by_cases c : 0 ≤ L.getD ((2 ^ n - 1) * n + i) 0
    · have h0 := nn i (by omega) c
      obtain ⟨i1, i2, i3⟩ := bst_ok nn d (i + 1) (if 0 ≤ L.getD ((2 ^ n - 1) * n + i) 0 ∧ (b < 0 ∨ L.getD ((2 ^ n - 1) * n + i) 0 + D i 0 < b) then L.getD ((2 ^ n - 1) * n + i) 0 + D i 0 else b) (by omega)
      have hb0 : 0 ≤ (if 0 ≤ L.getD ((2 ^ n - 1) * n + i) 0 ∧ (b < 0 ∨ L.getD ((2 ^ n - 1) * n + i) 0 + D i 0 < b) then L.getD ((2 ^ n - 1) * n + i) 0 + D i 0 else b) ∧ (if 0 ≤ L.getD ((2 ^ n - 1) * n + i) 0 ∧ (b < 0 ∨ L.getD ((2 ^ n - 1) * n + i) 0 + D i 0 < b) then L.getD ((2 ^ n - 1) * n + i) 0 + D i 0 else b) ≤ L.getD ((2 ^ n - 1) * n + i) 0 + D i 0 := by split <;> omega
      have j1 := i1 hb0.1
      refine ⟨fun h => ⟨j1.1, Int.le_trans j1.2 (by split <;> omega)⟩, fun p h1 h2 h3 => ?_, ?_⟩
      · by_cases e : p = i
        · subst e; exact ⟨j1.1, Int.le_trans j1.2 hb0.2⟩
        · exact i2 p (by omega) h2 h3
      · rcases i3 with i3 | i3
        · by_cases c' : 0 ≤ L.getD ((2 ^ n - 1) * n + i) 0 ∧ (b < 0 ∨ L.getD ((2 ^ n - 1) * n + i) 0 + D i 0 < b)
          · right; exact ⟨i, by omega, c, by rw [i3, if_pos c']⟩
          · left; rw [i3, if_neg c']
        · exact Or.inr i3
    · rw [if_neg (fun x => c x.1)]
      obtain ⟨i1, i2, i3⟩ := bst_ok nn d (i + 1) b (by omega)
      exact ⟨i1, fun p h1 h2 h3 => i2 p (Nat.lt_of_le_of_ne h1 fun e => c (by rw [e]; exact h3)) h2 h3, i3⟩

/-! ### Both give the same -/

structure Dm (D : Nat → Nat → Int) (n : Nat) : Prop where
  n1 : 1 ≤ n
  n6 : n ≤ 6
  up : ∀ i j, i < n → j < n → D i j ≤ 6
  zero : D 0 0 = 0
  tr : ∀ i j, i < n → j < n → 0 ≤ D 0 i → 0 ≤ D i j → 0 ≤ D 0 j
  back : ∀ i, i < n → 0 ≤ D 0 i → 0 ≤ D i 0

def Qd (D : Nat → Nat → Int) (n : Nat) (s i : Nat) (c : Int) : Prop :=
  c ≤ 6 * s ∧ 0 ≤ D 0 i ∧ (∀ x, x < n → s.testBit x = true → 0 ≤ D 0 x) ∧ (Ds D n → ∃ f, 2 ^ n - 1 - s < f ∧ tour D n 64 0 (2 ^ n - 2) ≤ c + tour D n f i (2 ^ n - 1 - s))

theorem qd_ok {D : Nat → Nat → Int} {n : Nat} (M : Dm D n) : Qok D n (Qd D n) where
  n1 := M.n1
  n6 := M.n6
  st := by
    intro s i j c hs hi hj ⟨q1, q2, q3, q4⟩ hb hd
    have n6 := M.n6
    have h64 := pow64 n6
    have p0 : 1 ≤ 2 ^ j := Nat.two_pow_pos j
    obtain ⟨b1, b2⟩ := bit_add s (by omega) j (by omega) hb
    have hbn := bit_addn n (by omega) s (by omega) j (by omega) hs hj hb
    have hup := M.up i j hi hj
    have h0j := M.tr i j hi hj q2 hd
    refine ⟨?_, h0j, fun x hx hbx => ?_, fun H => ?_⟩
    · have : (6 : Int) * ((s + 2 ^ j : Nat) : Int) ≥ 6 * s + 6 := by
        have : ((s + 2 ^ j : Nat) : Int) ≥ s + 1 := by exact_mod_cast (show s + 1 ≤ s + 2 ^ j by omega)
        omega
      omega
    · rw [b2 x (by omega)] at hbx
      by_cases e : x = j
      · rw [e]; exact h0j
      · exact q3 x hx (by simpa [e] using hbx)
    · obtain ⟨f, hf, ht⟩ := q4 H
      cases f with
      | zero => omega
      | succ f =>
        have hbf := bit_full n (by omega) s (by omega) j (by omega) hs hj
        rw [hb] at hbf
        have le := tour_le H (f := f) (a := i) (s := 2 ^ n - 1 - s) hi (by omega) hj hbf
        refine ⟨f, by omega, ?_⟩
        rw [show 2 ^ n - 1 - (s + 2 ^ j) = 2 ^ n - 1 - s - 2 ^ j by omega]
        omega

theorem table_ok {D : Nat → Nat → Int} {n : Nat} (M : Dm D n) : Dp D n (Qd D n) (2 ^ n) 0 0 (table D n) := by
  have n1 := M.n1
  have n6 := M.n6
  have p1 : 2 ≤ 2 ^ n := Nat.pow_le_pow_right (n := 2) (by omega) n1
  refine rs_ok (qd_ok M) _ 1 _ (by omega) (Nat.le_refl _) (start_ok (qd_ok M) ⟨by omega, by rw [M.zero]; omega, fun x hx hb => ?_, fun H => ⟨64, by have := pow64 n6; omega, ?_⟩⟩)
  · match x with
    | 0 => rw [M.zero]; omega
    | x + 1 => simp [Nat.testBit_succ] at hb
  · rw [show 2 ^ n - 1 - 1 = 2 ^ n - 2 by omega]; omega

theorem table_le {D : Nat → Nat → Int} {n : Nat} (M : Dm D n) (H : Ds D n) : ∀ (f s a : Nat), 2 ^ n - 1 - s < f → 1 ≤ s → s < 2 ^ n → a < n → 0 ≤ (table D n).getD (s * n + a) 0 →
    ∃ i, i < n ∧ 0 ≤ (table D n).getD ((2 ^ n - 1) * n + i) 0 ∧ (table D n).getD ((2 ^ n - 1) * n + i) 0 + D i 0 ≤ (table D n).getD (s * n + a) 0 + tour D n f a (2 ^ n - 1 - s)
  | 0, _, _, h, _, _, _, _ => by omega
  | f + 1, s, a, h, h1, hs, ha, h0 => by
    have n6 := M.n6
    have h64 := pow64 n6
    by_cases e : 2 ^ n - 1 - s = 0
    · rw [e, tour_zero]
      obtain rfl : s = 2 ^ n - 1 := by omega
      exact ⟨a, ha, h0, Int.le_refl _⟩
    · obtain ⟨p, hp, hb, et⟩ := tour_eq H (f := f) ha (show 2 ^ n - 1 - s < 2 ^ n by omega) e
      have hbf := bit_full n (by omega) s (by omega) p (by omega) hs hp
      rw [hb] at hbf
      have hbs : s.testBit p = false := by simpa using hbf.symm
      have p0 : 1 ≤ 2 ^ p := Nat.two_pow_pos p
      have hbn := bit_addn n (by omega) s (by omega) p (by omega) hs hp hbs
      have r := (table_ok M).rl s a p hs ha hp h1 (by omega) h0 hbs (H.nn a p ha hp)
      obtain ⟨i, hi, i1, i2⟩ := table_le M H f (s + 2 ^ p) p (by omega) (by omega) hbn hp r.1
      rw [show 2 ^ n - 1 - (s + 2 ^ p) = 2 ^ n - 1 - s - 2 ^ p by omega] at i2
      exact ⟨i, hi, i1, by omega⟩

theorem best_eq {D : Nat → Nat → Int} {n : Nat} (M : Dm D n) (H : Ds D n) : bst D n (table D n) 0 n (-1) = tour D n 64 0 (2 ^ n - 2) := by
  have n1 := M.n1
  have n6 := M.n6
  have h64 := pow64 n6
  have p1 : 2 ≤ 2 ^ n := Nat.pow_le_pow_right (n := 2) (by omega) n1
  have T := table_ok M
  obtain ⟨b1, b2, b3⟩ := bst_ok (D := D) (n := n) (L := table D n) (fun i hi _ => H.nn i 0 hi (by omega)) n 0 (-1) (by omega)
  have one := T.one
  obtain ⟨i, hi, i1, i2⟩ := table_le M H 64 1 0 (by omega) (by omega) (by omega) (by omega) (by rw [show 1 * n + 0 = n by omega, one]; omega)
  rw [show 1 * n + 0 = n by omega, one, show 2 ^ n - 1 - 1 = 2 ^ n - 2 by omega] at i2
  have c := b2 i (by omega) hi i1
  rcases b3 with b3 | ⟨p, hp, p1', p2⟩
  · omega
  · obtain ⟨_, _, _, q⟩ := T.q (2 ^ n - 1) p (by omega) hp p1'
    obtain ⟨f, hf, ht⟩ := q H
    rw [show 2 ^ n - 1 - (2 ^ n - 1) = 0 by omega, tour_zero] at ht
    omega

theorem best_none {D : Nat → Nat → Int} {n : Nat} (M : Dm D n) {x : Nat} (hx : x < n) (h : D 0 x < 0) : bst D n (table D n) 0 n (-1) = -1 := by
  have n6 := M.n6
  have h64 := pow64 n6
  have p0 := Nat.two_pow_pos n
  have T := table_ok M
  have no : ∀ i, i < n → ¬ 0 ≤ (table D n).getD ((2 ^ n - 1) * n + i) 0 := fun i hi hh => by
    obtain ⟨_, _, q, _⟩ := T.q (2 ^ n - 1) i (by omega) hi hh
    have := q x hx (by have := bit_full n (by omega) 0 (by omega) x (by omega) p0 hx; simpa using this)
    omega
  obtain ⟨b1, b2, b3⟩ := bst_ok (D := D) (n := n) (L := table D n) (fun i hi hh => absurd hh (no i hi)) n 0 (-1) (by omega)
  rcases b3 with b3 | ⟨p, hp, p1', p2⟩
  · exact b3
  · exact absurd p1' (no p hp)

end Go.Proofs.Ytcbhhbkghbnljaa.Vf
