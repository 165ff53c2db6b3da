/- Least rounds: what program and reference give. -/
import Derived.Test.YtcbhhbkghbnljaaQGrC
import Derived.Test.YtcbhhbkghbnljaaQTurns
set_option linter.unusedVariables false
set_option linter.unusedSimpArgs false
namespace Go.Proofs.Ytcbhhbkghbnljaa.Vf
open Go Go.V Go.RowKit

/-! ### Bits -/

theorem bitV : ∀ s, s < 64 → ∀ p, p < 6 → andV .i64 (shrV .i64 ((s : Nat) : Int) ((p : Nat) : Int)) 1 = if s.testBit p = true then 1 else 0 := by
  simp only [andV_eq, shrV_eq]
  decide +kernel
theorem orB : ∀ s, s < 64 → ∀ p, p < 6 → orV .i64 ((s : Nat) : Int) (shlV .i64 1 ((p : Nat) : Int)) = if s.testBit p = true then ((s : Nat) : Int) else ((s + 2 ^ p : Nat) : Int) := by
  simp only [orV_eq, shlV_eq]
  decide +kernel
theorem remB : ∀ s, s < 64 → ∀ p, p < 6 → andNotV .i64 ((s : Nat) : Int) (shlV .i64 1 ((p : Nat) : Int)) = if s.testBit p = true then ((s - 2 ^ p : Nat) : Int) else ((s : Nat) : Int) := by
  simp only [andNotV_eq, shlV_eq]
  decide +kernel
theorem shl1 : ∀ n, n < 7 → shlV .i64 1 ((n : Nat) : Int) = ((2 ^ n : Nat) : Int) := by
  simp only [shlV_eq]
  decide +kernel
theorem shln : ∀ n, n < 7 → shlV .i64 ((n : Nat) : Int) ((n : Nat) : Int) = ((n * 2 ^ n : Nat) : Int) := by
  simp only [shlV_eq]
  decide +kernel
theorem u64n : ∀ n, n < 7 → IntKind.wrap .u64 ((n : Nat) : Int) = ((n : Nat) : Int) := by decide +kernel

/-! ### The distances -/

theorem dm_ok {n : Nat} {r : Int} (h1 : 1 ≤ n) (h6 : n ≤ 6) : Dm (dis (nrV r) n) n where
  n1 := h1
  n6 := h6
  up := fun i j hi hj => by have := dis_up (nr := nrV r) hi hj; omega
  zero := dis_self (by omega)
  tr := fun i j hi hj a b => dis_trans (by omega) hi hj a b
  back := fun i hi a => by rw [dis_sym (nrV_sym h6 r) hi (show 0 < n by omega)]; exact a

theorem ds_ok {n : Nat} {r : Int} (h1 : 1 ≤ n) (h6 : n ≤ 6) (h : ∀ x, x < n → 0 ≤ dis (nrV r) n 0 x) : Ds (dis (nrV r) n) n where
  n1 := h1
  n6 := h6
  nn := fun i j hi hj => dis_trans hi (show 0 < n by omega) hj ((dm_ok h1 h6).back i hi (h i hi)) (h j hj)

theorem rd_dst {n i j : Nat} {r : Int} : rd (dst (nrV r) n i) (j : Int) = dis (nrV r) n i j := rd_nat _ _

theorem tour_up {D : Nat → Nat → Int} {n : Nat} (H : Ds D n) (up : ∀ i j, i < n → j < n → D i j ≤ 6) : ∀ (f a s : Nat), a < n → s < 2 ^ n → tour D n f a s ≤ 6 * f + 6
  | 0, a, s, ha, hs => by have := up a 0 ha (by omega); show D a 0 ≤ _; omega
  | f + 1, a, s, ha, hs => by
    by_cases h0 : s = 0
    · rw [h0, tour_zero]; have := up a 0 ha (by omega); omega
    · obtain ⟨p, hp, hb, e⟩ := tour_eq H (f := f) ha hs h0
      have p0 := Nat.two_pow_pos p
      have ih := tour_up H up f p (s - 2 ^ p) hp (by omega)
      have := up a p ha hp
      omega

/-! ### The program -/

theorem tour_l0 {k n a s f : Nat} {r : Int} {rf : Int → Int → Int → Int → Int → Option Int} (H : Ds (dis (nrV r) n) n) (ha : a < n) (hs : s < 2 ^ n) (hf : f ≤ 64)
    (hr : ∀ p, p < n → s.testBit p = true → rf n r p ((s - 2 ^ p : Nat) : Int) 0 = some (tour (dis (nrV r) n) n f p (s - 2 ^ p))) : ∀ (d i m : Nat) (b : Int), i + d = n → d < m →
    impl_Ground_tour.l0 k rf m s 0 n r b (dst (nrV r) n a) n i = some (tl (dis (nrV r) n) (tour (dis (nrV r) n) n f) a s i d b) := by
  have n6 := H.n6
  have h64 := pow64 n6
  intro d
  induction d with
  | zero =>
    intro i m b hd hm
    cases m with
    | zero => omega
    | succ m =>
      simp only [impl_Ground_tour.l0, impl_Ground_tour.s0]
      rw [if_neg (by omega)]
      rfl
  | succ d ih =>
    intro i m b hd hm
    cases m with
    | zero => omega
    | succ m =>
      have hl := dst_len (nr := nrV r) ha
      simp only [impl_Ground_tour.l0, impl_Ground_tour.s0]
      rw [if_pos (by omega), if_pos (by omega), if_pos (by omega), if_neg (by omega), bitV s (by omega) i (by omega), remB s (by omega) i (by omega), w64n (by omega), rd_dst]
      unfold tl
      by_cases hb : s.testBit i = true
      · rw [if_pos hb, if_pos hb, if_pos hb, if_neg (by decide), if_neg (by omega), hr i (by omega) hb, Option.bind_some]
        have b1 := H.nn a i ha (by omega)
        have b2 := (dm_ok (r := r) H.n1 n6).up a i ha (by omega)
        have p0 := Nat.two_pow_pos i
        have b3 := (tour_nn H f i (s - 2 ^ i) (by omega) (by omega)).1
        have b4 := tour_up H (dm_ok (r := r) H.n1 n6).up f i (s - 2 ^ i) (by omega) (by omega)
        rw [w64 (x := dis (nrV r) n a i + tour (dis (nrV r) n) n f i (s - 2 ^ i)) (by omega) (by omega)]
        by_cases c1 : b < 0
        · rw [if_pos c1, if_pos (Or.inl c1)]
          exact ih (i + 1) m _ (by omega) (by omega)
        · rw [if_neg c1]
          by_cases c2 : dis (nrV r) n a i + tour (dis (nrV r) n) n f i (s - 2 ^ i) < b
          · rw [if_pos c2, if_pos (Or.inr c2)]
            exact ih (i + 1) m _ (by omega) (by omega)
          · rw [if_neg c2, if_neg (fun x => x.elim c1 c2)]
            exact ih (i + 1) m _ (by omega) (by omega)
      · rw [if_neg hb, if_neg hb, if_neg hb, if_pos rfl]
        exact ih (i + 1) m _ (by omega) (by omega)

theorem tour_r {k n : Nat} {r : Int} (hk : 2097152 ≤ k) (H : Ds (dis (nrV r) n) n) : ∀ (f m a s : Nat), s < f → f ≤ m → f ≤ 64 → s < 2 ^ n → a < n → impl_Ground_tour.r k m n r a s 0 = some (tour (dis (nrV r) n) n f a s) := by
  have n6 := H.n6
  have n1 := H.n1
  intro f
  induction f with
  | zero => intro m a s h; omega
  | succ f ih =>
    intro m a s h hm hf hs ha
    cases m with
    | zero => omega
    | succ m =>
      have hl := dst_len (nr := nrV r) ha
      simp only [impl_Ground_tour.r, impl_Ground_tour.b, impl_Ground_tour.g]
      rw [impl_dist_f hk n6 ha, Option.bind_some, Option.bind_some, hl]
      unfold tour
      by_cases h0 : s = 0
      · subst h0
        rw [if_pos (by omega), if_pos (by omega), if_pos (by omega)]
        rw [if_pos rfl]
        exact congrArg some (rd_dst (r := r) (n := n) (i := a) (j := 0))
      · rw [if_neg (by omega), if_neg h0]
        have := tour_l0 (k := k) (f := f) (rf := impl_Ground_tour.r k m) H ha hs (by omega) (fun p hp hb => by
          have p0 := Nat.two_pow_pos p
          exact ih m p (s - 2 ^ p) (by omega) (by omega) (by omega) (by omega) hp) n 0 k (-1) (by omega) (by omega)
        rw [Int.natCast_zero] at this
        exact this

/-- What the program and the reference give for a ground's round. -/
noncomputable def roundR (p r : Int) : Int × Int := if isGr p r = true then (if (∀ x, x < p.toNat → 0 ≤ dis (nrV r) p.toNat 0 x) then (tour (dis (nrV r) p.toNat) p.toNat 64 0 (2 ^ p.toNat - 2), 0) else (0, 4)) else (0, 1)

theorem contains_dec {k : Nat} {l : List Int} (hk : 2097152 ≤ k) (hl : l.length ≤ 1048576) (x : Int) : slices_Contains_int64_int64.f k l x = some (decide (x ∈ l)) := by
  obtain ⟨b, e, h⟩ := contains_f hk hl x
  rw [e, Option.some_inj, Bool.eq_iff_iff, h, decide_eq_true_eq]
  exact ⟨fun ⟨y, hy, e⟩ => e ▸ hy, fun hy => ⟨x, hy, rfl⟩⟩

theorem impl_Round_f {k : Nat} {p r : Int} (hk : 2097152 ≤ k) : impl_ShortestRound.f k p r = some (roundR p r) := by
  unfold impl_ShortestRound.f impl_groundCode.f roundR
  obtain ⟨g1, g2, g3⟩ := ground_ok p r
  rw [g2, Option.bind_some]
  by_cases hg : isGr p r = true
  · have hp := g3 hg
    obtain ⟨n, rfl⟩ := Int.eq_ofNat_of_zero_le (show 0 ≤ p by omega)
    rw [hg]
    have hl := dst_len (nr := nrV r) (show 0 < n by omega)
    simp only [decide_true, Bool.not_true, Bool.false_eq_true, if_false, Option.bind_some, if_true, Int.toNat_natCast]
    have e := impl_dist_f (r := r) hk (show n ≤ 6 by omega) (show 0 < n by omega)
    rw [Int.natCast_zero] at e
    rw [e, Option.bind_some, contains_dec hk (by omega), Option.bind_some]
    by_cases c : ∀ x, x < n → 0 ≤ dis (nrV r) n 0 x
    · have hc : ¬ decide ((-1 : Int) ∈ dst (nrV r) n 0) = true := by
        rw [decide_eq_true_eq, List.mem_iff_getElem]
        rintro ⟨x, hx, ex⟩
        have := c x (by omega)
        unfold dis at this
        rw [List.getD_eq_getElem?_getD, List.getElem?_eq_getElem hx, Option.getD_some, ex] at this
        omega
      rw [if_neg hc, if_neg (by omega), if_pos c, shl1 n (by omega)]
      have p1 : 2 ≤ 2 ^ n := Nat.pow_le_pow_right (n := 2) (by omega) (show 1 ≤ n by omega)
      have h64 := pow64 (n := n) (by omega)
      rw [show wrap64 (((2 ^ n : Nat) : Int) - 2) = ((2 ^ n - 2 : Nat) : Int) by rw [w64 (by omega) (by omega)]; omega]
      unfold impl_Ground_tour.f
      have := tour_r hk (ds_ok (r := r) (by omega) (by omega) c) 64 k 0 (2 ^ n - 2) (by omega) (by omega) (by omega) (by omega) (by omega)
      rw [Int.natCast_zero] at this
      rw [this]; rfl
    · have hc : decide ((-1 : Int) ∈ dst (nrV r) n 0) = true := by
        rw [decide_eq_true_eq]
        obtain ⟨x, hx⟩ := Classical.not_forall.1 c
        obtain ⟨hx, h⟩ := Classical.not_imp.1 hx
        have low := dis_low (nr := nrV r) (show 0 < n by omega) hx
        have e : dis (nrV r) n 0 x = -1 := by omega
        unfold dis at e
        rw [← e, List.getD_eq_getElem?_getD, List.getElem?_eq_getElem (by omega), Option.getD_some]
        exact List.getElem_mem _
      rw [if_pos hc, if_neg c]
  · have hg : isGr p r = false := by simpa using hg
    rw [hg]; rfl

end Go.Proofs.Ytcbhhbkghbnljaa.Vf
