/- Rounds of lines, stars and rings; the least equal gap beside the round; distances and near places. -/
import Derived.Test.YtcbhhbkghbnljaaQGrF
set_option linter.unusedVariables false
set_option linter.unusedSimpArgs false
namespace Go.Proofs.Ytcbhhbkghbnljaa.Vf
open Go Go.V Go.RowKit

theorem line_val : ∀ n, n < 7 → 1 ≤ n → tour (dis (nrC (lineN n).toNat) n) n 64 0 (2 ^ n - 2) = 2 * n - 2 := by decide +kernel
theorem star_val : ∀ n, n < 7 → 1 ≤ n → tour (dis (nrC (starN n).toNat) n) n 64 0 (2 ^ n - 2) = 2 * n - 2 := by decide +kernel
theorem ring_val : ∀ n, n < 7 → 3 ≤ n → tour (dis (nrC (ringN n).toNat) n) n 64 0 (2 ^ n - 2) = n := by decide +kernel

def numsG : List Nat := [0, 1, 5, 37, 549, 16933, 3, 11, 75, 1099, 7, 45, 613, 17957]
theorem line_num : ∀ n, n < 7 → 1 ≤ n → (lineN n).toNat ∈ numsG ∧ 0 ≤ lineN n := by decide +kernel
theorem star_num : ∀ n, n < 7 → 1 ≤ n → (starN n).toNat ∈ numsG ∧ 0 ≤ starN n := by decide +kernel
theorem ring_num : ∀ n, n < 7 → 3 ≤ n → (ringN n).toNat ∈ numsG ∧ 0 ≤ ringN n := by decide +kernel
theorem line_gr : ∀ n, n < 7 → 1 ≤ n → isGr ((n : Nat) : Int) (lineN n) = true := by
  simp only [isGr, shlV_eq]
  decide +kernel
theorem star_gr : ∀ n, n < 7 → 1 ≤ n → isGr ((n : Nat) : Int) (starN n) = true := by
  simp only [isGr, shlV_eq]
  decide +kernel
theorem ring_gr : ∀ n, n < 7 → 3 ≤ n → isGr ((n : Nat) : Int) (ringN n) = true := by
  simp only [isGr, shlV_eq]
  decide +kernel

theorem round_val {n : Nat} {r v : Int} (h6 : n < 7) (h1 : 1 ≤ n) (hr : r.toNat ∈ numsG ∧ 0 ≤ r) (hg : isGr n r = true) (hd : ∀ x, x < n → 0 ≤ dis (nrC r.toNat) n 0 x) (hv : tour (dis (nrC r.toNat) n) n 64 0 (2 ^ n - 2) = v) : roundR n r = (v, 0) := by
  obtain ⟨m, rfl⟩ := Int.eq_ofNat_of_zero_le hr.2
  rw [Int.toNat_natCast] at hr hd hv
  have near : ∀ a b, a < n → b < n → nrV (m : Int) a b = nrC m a b := fun a b ha hb => nrC_ok m hr.1 a (by omega) b (by omega)
  have e : ∀ i j, i < n → j < n → dis (nrV (m : Int)) n i j = dis (nrC m) n i j := fun i j hi hj => dis_congr near hi hj
  unfold roundR
  rw [if_pos hg, Int.toNat_natCast, if_pos (fun x hx => by rw [e 0 x (by omega) hx]; exact hd x hx), tour_congr e 64 0 _ (by omega), hv]

theorem line_round {n : Nat} (h6 : n < 7) (h1 : 1 ≤ n) : roundR n (lineN n) = (2 * (n : Int) - 2, 0) := round_val h6 h1 (line_num n h6 h1) (line_gr n h6 h1) (line_dis n h6 h1) (line_val n h6 h1)
theorem star_round {n : Nat} (h6 : n < 7) (h1 : 1 ≤ n) : roundR n (starN n) = (2 * (n : Int) - 2, 0) := round_val h6 h1 (star_num n h6 h1) (star_gr n h6 h1) (star_dis n h6 h1) (star_val n h6 h1)
theorem ring_round {n : Nat} (h6 : n < 7) (h1 : 3 ≤ n) : roundR n (ringN n) = ((n : Int), 0) := round_val h6 (by omega) (ring_num n h6 h1) (ring_gr n h6 h1) (ring_dis n h6 h1) (ring_val n h6 h1)

/-! ### Distances and near places -/

noncomputable def distR (p r i : Int) : List Int × Int := if isGr p r = true then (if 0 ≤ i ∧ i ≤ p - 1 then (dst (nrV r) p.toNat i.toNat, 0) else ([], 2)) else ([], 1)
noncomputable def nearR (p r a b : Int) : Bool × Int := if isGr p r = true then (if (0 ≤ a ∧ a ≤ p - 1) ∧ (0 ≤ b ∧ b ≤ p - 1) then (nearV r a b, 0) else (false, 2)) else (false, 1)

theorem impl_Dist_f {k : Nat} {p r i : Int} (hk : 2097152 ≤ k) : impl_DistancesFrom.f k p r i = some (distR p r i) := by
  unfold impl_DistancesFrom.f impl_groundCode.f impl_Ground_isPlace.f distR
  obtain ⟨g1, g2, g3⟩ := ground_ok p r
  rw [g2, within_f]
  simp only [Option.bind_some]
  by_cases hg : isGr p r = true
  · have hp := g3 hg
    rw [hg, w64 (x := p - 1) (by omega) (by omega)]
    obtain ⟨n, rfl⟩ := Int.eq_ofNat_of_zero_le (show 0 ≤ p by omega)
    by_cases hi : 0 ≤ i ∧ i ≤ (n : Int) - 1
    · rw [decide_eq_true hi, if_pos hi]
      obtain ⟨j, rfl⟩ := Int.eq_ofNat_of_zero_le hi.1
      simp only [decide_true, Bool.not_true, Bool.false_eq_true, if_false, Option.bind_some, if_true, Int.toNat_natCast]
      rw [impl_dist_f hk (by omega) (by omega)]; rfl
    · rw [decide_eq_false hi, if_neg hi]; rfl
  · have hg : isGr p r = false := by simpa using hg
    rw [hg]; rfl

theorem spec_places1 {k : Nat} {p r a : Int} (hk : 2097152 ≤ k) : spec_l09Places.f k p r [a] = some (if isGr p r = true then (if 0 ≤ a ∧ a ≤ p - 1 then 0 else 2) else 1) := by
  unfold spec_l09Places.f spec_l09Places.g
  obtain ⟨g1, g2, g3⟩ := ground_ok p r
  rw [g1, Option.bind_some]
  by_cases hg : isGr p r = true
  · have hp := g3 hg
    rw [if_pos hg, if_pos hg]
    obtain ⟨k, rfl⟩ : ∃ j, k = j + 2 := ⟨k - 2, by omega⟩
    simp only [spec_l09Places.l0, spec_l09Places.s0]
    rw [if_pos (by simp), if_pos (by simp), if_pos (by simp), l01In_f, Option.bind_some, w64 (x := p - 1) (by omega) (by omega), show rd [a] 0 = a from rfl, show wrap64 (0 + 1) = 1 by decide +kernel]
    by_cases h : 0 ≤ a ∧ a ≤ p - 1
    · rw [if_pos (decide_eq_true h), if_neg (by simp), if_pos h]
    · rw [if_neg (by simpa using h), if_neg h]
  · rw [if_neg hg, if_neg hg]

theorem spec_places2 {k : Nat} {p r a b : Int} (hk : 2097152 ≤ k) : spec_l09Places.f k p r [a, b] = some (if isGr p r = true then (if (0 ≤ a ∧ a ≤ p - 1) ∧ (0 ≤ b ∧ b ≤ p - 1) then 0 else 2) else 1) := by
  unfold spec_l09Places.f spec_l09Places.g
  obtain ⟨g1, g2, g3⟩ := ground_ok p r
  rw [g1, Option.bind_some]
  by_cases hg : isGr p r = true
  · have hp := g3 hg
    rw [if_pos hg, if_pos hg]
    obtain ⟨k, rfl⟩ : ∃ j, k = j + 3 := ⟨k - 3, by omega⟩
    simp only [spec_l09Places.l0, spec_l09Places.s0]
    rw [if_pos (by simp), if_pos (by simp), if_pos (by simp), l01In_f, Option.bind_some, w64 (x := p - 1) (by omega) (by omega), show rd [a, b] 0 = a from rfl, show wrap64 (0 + 1) = 1 by decide +kernel]
    by_cases h : 0 ≤ a ∧ a ≤ p - 1
    · rw [if_pos (decide_eq_true h), if_pos (by simp), if_pos (by simp), if_pos (by simp), l01In_f, Option.bind_some, show rd [a, b] 1 = b from rfl, show wrap64 (1 + 1) = 2 by decide +kernel]
      by_cases h' : 0 ≤ b ∧ b ≤ p - 1
      · rw [if_pos (decide_eq_true h'), if_neg (by simp), if_pos ⟨h, h'⟩]
      · rw [if_neg (by simpa using h'), if_neg (fun x => h' x.2)]
    · rw [if_neg (by simpa using h), if_neg (fun x => h x.1)]
  · rw [if_neg hg, if_neg hg]

theorem spec_Dist_f {k : Nat} {p r i : Int} (hk : 2097152 ≤ k) : spec_DistancesFrom.f k p r i = some (distR p r i) := by
  unfold spec_DistancesFrom.f distR
  rw [spec_places1 hk, Option.bind_some]
  obtain ⟨g1, g2, g3⟩ := ground_ok p r
  by_cases hg : isGr p r = true
  · have hp := g3 hg
    rw [if_pos hg, if_pos hg]
    obtain ⟨n, rfl⟩ := Int.eq_ofNat_of_zero_le (show 0 ≤ p by omega)
    by_cases hi : 0 ≤ i ∧ i ≤ (n : Int) - 1
    · rw [if_pos hi, if_pos hi]
      obtain ⟨j, rfl⟩ := Int.eq_ofNat_of_zero_le hi.1
      rw [if_pos rfl, spec_dist_f hk (by omega) (by omega)]; rfl
    · rw [if_neg hi, if_neg hi]; rfl
  · rw [if_neg hg, if_neg hg]; rfl

theorem impl_Near_f {p r a b : Int} : impl_AreNear.f p r a b = some (nearR p r a b) := by
  unfold impl_AreNear.f impl_groundCode.f impl_Ground_isPlace.f nearR
  obtain ⟨g1, g2, g3⟩ := ground_ok p r
  rw [g2, within_f, within_f]
  simp only [Option.bind_some]
  by_cases hg : isGr p r = true
  · have hp := g3 hg
    rw [hg, w64 (x := p - 1) (by omega) (by omega)]
    by_cases ha : 0 ≤ a ∧ a ≤ p - 1
    · rw [decide_eq_true ha]
      by_cases hb : 0 ≤ b ∧ b ≤ p - 1
      · rw [decide_eq_true hb, if_pos (show (0 ≤ a ∧ a ≤ p - 1) ∧ (0 ≤ b ∧ b ≤ p - 1) from ⟨ha, hb⟩)]
        simp only [decide_true, Bool.not_true, Bool.false_eq_true, if_false, Option.bind_some, if_true]
        rw [(near_ok (p := p) (r := r) ha.1 (by omega) hb.1 (by omega)).2]; rfl
      · rw [decide_eq_false hb, if_neg (show ¬ ((0 ≤ a ∧ a ≤ p - 1) ∧ (0 ≤ b ∧ b ≤ p - 1)) from fun x => hb x.2)]; rfl
    · rw [decide_eq_false ha, if_neg (show ¬ ((0 ≤ a ∧ a ≤ p - 1) ∧ (0 ≤ b ∧ b ≤ p - 1)) from fun x => ha x.1)]; rfl
  · have hg : isGr p r = false := by simpa using hg
    rw [hg]
    cases decide (0 ≤ a ∧ a ≤ wrap64 (p - 1)) <;> rfl

theorem spec_Near_f {k : Nat} {p r a b : Int} (hk : 2097152 ≤ k) : spec_AreNear.f k p r a b = some (nearR p r a b) := by
  unfold spec_AreNear.f nearR
  rw [spec_places2 hk, Option.bind_some]
  obtain ⟨g1, g2, g3⟩ := ground_ok p r
  by_cases hg : isGr p r = true
  · have hp := g3 hg
    rw [if_pos hg, if_pos hg]
    by_cases h : (0 ≤ a ∧ a ≤ p - 1) ∧ (0 ≤ b ∧ b ≤ p - 1)
    · rw [if_pos h, if_pos h, if_pos rfl, (near_ok (p := p) (r := r) h.1.1 (by omega) h.2.1 (by omega)).1]; rfl
    · rw [if_neg h, if_neg h]; rfl
  · rw [if_neg hg, if_neg hg]; rfl

/-! ### A closed walk is waited for no longer than its length -/

theorem places_mem {cs : List Int} {t : Int} : ∀ {i j : Nat}, j < i → rd cs j = t → (j : Int) ∈ places cs t i
  | 0, j, h, _ => by omega
  | i + 1, j, h, e => by
    unfold places
    by_cases c : j = i
    · subst c; rw [if_pos e]; simp
    · have ih := places_mem (i := i) (show j < i by omega) e
      split
      · exact List.mem_append_left _ ih
      · exact ih

theorem places_head (cs : List Int) (t : Int) : ∀ (i : Nat), ∀ x ∈ places cs t i, rd (places cs t i) ((0 : Nat) : Int) ≤ x
  | 0 => fun x h => by simp [places] at h
  | i + 1 => fun x h => by
    have ih := places_head cs t i
    have bd := places_bnd cs t i
    unfold places at h ⊢
    by_cases c : rd cs i = t
    · rw [if_pos c] at h ⊢
      cases hp : places cs t i with
      | nil =>
        rw [hp] at h
        simp only [List.nil_append, List.mem_singleton] at h
        rw [h]; exact Int.le_refl _
      | cons y P =>
        rw [hp] at h ih bd
        show y ≤ x
        rcases List.mem_append.1 h with h | h
        · exact ih x h
        · simp only [List.mem_singleton] at h
          have := (bd y (List.mem_cons_self ..)).2
          omega
    · rw [if_neg c] at h ⊢
      exact ih x h

theorem okT_all {cs : List Int} {t g : Int} (hm : ∃ j : Nat, j < cs.length ∧ rd cs j = t) (hg : (cs.length : Int) ≤ g) : okT cs t g = true := by
  obtain ⟨j, hj, e⟩ := hm
  have pm := places_mem hj e
  have pl : 1 ≤ (places cs t cs.length).length := List.length_pos_of_mem pm
  unfold okT wait
  rw [decide_eq_true_eq, wts_len]
  refine ⟨pl, grt_le.2 ⟨by omega, fun y hy => ?_⟩⟩
  obtain ⟨i, hi, rfl⟩ := List.mem_iff_getElem.1 hy
  rw [wts_len] at hi
  have e1 := wts_rd (cs.length : Int) (P := places cs t cs.length) hi
  rw [rd_lt (by rw [wts_len]; exact hi)] at e1
  rw [e1]
  have m1 := rd_mem hi
  have b1 := places_bnd cs t cs.length _ m1
  have h1 := places_head cs t cs.length _ m1
  split
  · have m2 := rd_mem (l := places cs t cs.length) (i := i + 1) (by omega)
    have b2 := places_bnd cs t cs.length _ m2
    omega
  · omega

/-! ### The least equal gap -/

noncomputable def legR (p r m : Int) : Int × Int := if isGr p r = true then (if 1 ≤ m ∧ m ≤ 10 then (if 20000 < p * cnt (eqG p.toNat m) then (0, 3) else leastG p.toNat r m 1 m.toNat) else (0, 2)) else (0, 1)

theorem leg_both {k : Nat} {p r m : Int} (hk : 2097152 ≤ k) : spec_LeastEqualGap.f k p r m = some (legR p r m) ∧ impl_LeastEqualGap.f k p r m = some (legR p r m) := by
  obtain ⟨g1, g2, g3⟩ := ground_ok p r
  unfold spec_LeastEqualGap.f spec_LeastEqualGap.g impl_LeastEqualGap.f impl_LeastEqualGap.g impl_groundCode.f legR
  rw [g1, g2, within_f, l01In_f]
  simp only [Option.bind_some]
  by_cases hg : isGr p r = true
  · have hp := g3 hg
    obtain ⟨n, rfl⟩ := Int.eq_ofNat_of_zero_le (show 0 ≤ p by omega)
    rw [hg]
    by_cases hm : 1 ≤ m ∧ m ≤ 10
    · have hT := eqG_T (n := n) (gap := m) (by omega) (by omega) hm.1 hm.2
      have hb := size_bnd hT (p := n) (by omega) (by omega)
      simp only [decide_eq_true hm, if_true, decide_true, Bool.not_true, Bool.false_eq_true, if_false, Option.bind_some, if_pos hm, Int.toNat_natCast]
      rw [l09Equal_f hk (by omega), Option.bind_some, size_f hk hT (by omega) (by omega), Option.bind_some]
      have hall := implG_all (k := k) (n := n) (r := r) (m := m) hk (by omega) (by omega) hm.1 hm.2 n 0 k n rfl (by omega) (by omega) (by omega) hb.2
      rw [Int.natCast_zero] at hall
      rw [hall]
      by_cases hs : 20000 < (n : Int) * cnt (eqG n m)
      · rw [if_pos hs, if_pos hs, if_pos hs]; exact ⟨rfl, rfl⟩
      · rw [if_neg hs, if_neg hs, if_neg hs]
        exact ⟨specG_loop hk hg (by omega) (by omega) hm.2 (by omega) _ 1 k (by omega) (by omega) (by omega) (by omega), implG_loop hk hg (by omega) (by omega) hm.2 (by omega) _ 1 k (by omega) (by omega) (by omega) (by omega)⟩
    · rw [decide_eq_false hm, if_neg hm]
      exact ⟨rfl, rfl⟩
  · have hg : isGr p r = false := by simpa using hg
    rw [hg]
    exact ⟨rfl, rfl⟩

theorem leastG_le {n : Nat} {r m g : Int} (hb : 0 ≤ (beginF r (eqG n g) 0 n).getD (-1)) : ∀ (d : Nat) (gap : Int), gap ≤ g → g < gap + d → (leastG n r m gap d).2 = 0 ∧ (leastG n r m gap d).1 ≤ g
  | 0, gap, h1, h2 => by omega
  | d + 1, gap, h1, h2 => by
    unfold leastG
    by_cases c : 0 ≤ (beginF r (eqG n gap) 0 n).getD (-1)
    · rw [if_pos c]; exact ⟨rfl, h1⟩
    · rw [if_neg c]
      have : gap ≠ g := fun e => c (by rw [e]; exact hb)
      exact leastG_le hb d (gap + 1) (by omega) (by omega)

theorem wk_near {nr : Nat → Nat → Bool} {n : Nat} : ∀ {l : List Nat} {a b : Nat}, a < n → Wk nr n a l b → ∀ j, j < l.length → l.getD j 0 < n ∧ nr (l.getD j 0) (if j + 1 < l.length then l.getD (j + 1) 0 else b) = true
  | [], _, _, _, _, j, hj => by simp at hj
  | x :: l, a, b, ha, ⟨e, c, h1, h2, h3⟩, j, hj => by
    subst e
    have ih := wk_near h1 h3
    match j with
    | 0 =>
      refine ⟨ha, ?_⟩
      match l, h3 with
      | [], h3 => cases h3; exact h2
      | y :: l, h3 =>
        obtain ⟨rfl, _⟩ := h3
        rw [if_pos (by simp)]; exact h2
    | j + 1 =>
      have := ih j (by simpa using hj)
      refine ⟨this.1, ?_⟩
      have e : (j + 1 + 1 < (x :: l).length) = (j + 1 < l.length) := by simp
      simp only [e]
      exact this.2

theorem round_begin {n : Nat} {r m g : Int} (h1 : 1 ≤ n) (h6 : n ≤ 6) (hg : isGr n r = true) (hc : ∀ x, x < n → 0 ≤ dis (nrV r) n 0 x) (hm : m ≤ 10) (hs : (n : Int) * cnt (eqG n m) ≤ 20000)
    (e : g = maxV (tour (dis (nrV r) n) n 64 0 (2 ^ n - 2)) 1) (gm : g ≤ m) : 0 ≤ (beginF r (eqG n g) 0 n).getD (-1) := by
  have H := ds_ok h1 h6 hc
  have h64 := pow64 h6
  have p1 : 2 ≤ 2 ^ n := Nat.pow_le_pow_right (n := 2) (by omega) h1
  obtain ⟨l, hl, w, hv⟩ := tour_walk H 64 0 (2 ^ n - 2) (by omega) (by omega) (by omega)
  have g1 : 1 ≤ g := by rw [e]; unfold maxV; split <;> omega
  have cw := eqG_W (r := r) hg h1 h6 g1 gm hm hs
  -- the closed walk, or the place alone
  have key : ∃ cs : List Nat, 1 ≤ cs.length ∧ (cs.length : Int) ≤ g ∧ (∀ x, x < n → x ∈ cs) ∧ ∀ j, j < cs.length → cs.getD j 0 < n ∧ nrV r (cs.getD j 0) (if j + 1 < cs.length then cs.getD (j + 1) 0 else cs.getD 0 0) = true := by
    match l, hl, w, hv with
    | [], hl, w, hv =>
      have n1 : n = 1 := by
        by_cases c : n = 1
        · exact c
        · have hb : (2 ^ n - 2).testBit 1 = true := by
            have : ∀ n, n < 7 → 2 ≤ n → (2 ^ n - 2).testBit 1 = true := by decide +kernel
            exact this n (by omega) (by omega)
          rcases hv 1 (by omega) hb with x | x
          · simp at x
          · omega
      refine ⟨[0], by simp, by simp; omega, fun x hx => by simp; omega, fun j hj => ?_⟩
      have : j = 0 := by simpa using hj
      subst this
      exact ⟨by simp; omega, by simp [nrV_self]⟩
    | x :: l, hl, w, hv =>
      have e0 : x = 0 := w.1
      subst e0
      refine ⟨0 :: l, by simp, ?_, fun y hy => ?_, fun j hj => ?_⟩
      · rw [hl, e]; unfold maxV; split <;> omega
      · by_cases y0 : y = 0
        · subst y0; exact List.mem_cons_self ..
        · have hb : (2 ^ n - 2).testBit y = true := by
            have : ∀ n, n < 7 → ∀ y, y < 6 → (decide (y < n) && decide (y ≠ 0)) = true → (2 ^ n - 2).testBit y = true := by decide +kernel
            exact this n (by omega) y (by omega) (by simp [hy, y0])
          rcases hv y hy hb with c | c
          · exact c
          · exact absurd c y0
      · exact wk_near (by omega) w j hj
  obtain ⟨cs, c1, c2, c3, c4⟩ := key
  have len : (qI cs).length = cs.length := qI_len cs
  have rdq : ∀ j : Nat, j < cs.length → rd (qI cs) j = ((cs.getD j 0 : Nat) : Int) := fun j hj => by
    rw [rd_lt (by omega)]
    unfold qI
    rw [List.getElem_map, List.getD_eq_getElem?_getD, List.getElem?_eq_getElem hj, Option.getD_some]
  have hT : turnsW n (qI cs) = true := by
    unfold turnsW
    rw [Bool.and_eq_true, decide_eq_true_eq, List.all_eq_true]
    refine ⟨by omega, fun x hx => ?_⟩
    obtain ⟨i, hi, rfl⟩ := List.mem_iff_getElem.1 hx
    have := (c4 i (by omega)).1
    have e' := rdq i (by omega)
    rw [rd_lt hi] at e'
    rw [e']
    unfold turnW
    rw [decide_eq_true_eq, w64 (by omega) (by omega)]
    omega
  have hR : routeF r (qI cs) 0 (qI cs).length = true := by
    rw [routeF_iff]
    intro j _ hj
    rw [len] at hj
    have hj : j < cs.length := by omega
    obtain ⟨n1, n2⟩ := c4 j hj
    unfold routeB
    have es := sc_eq (n := (qI cs).length) (i := j) (by omega)
    have e2 : rd (qI cs) (sc (qI cs).length j : Nat) = (((if j + 1 < cs.length then cs.getD (j + 1) 0 else cs.getD 0 0) : Nat) : Int) := by
      rw [es, len]
      by_cases c : j + 1 < cs.length
      · rw [if_pos c, if_pos c, rdq _ c]
      · rw [if_neg c, if_neg c, rdq 0 (by omega)]
    rw [e2, rdq j hj]
    simp only [Bool.and_eq_true, decide_eq_true_eq]
    exact ⟨by omega, by omega, n2⟩
  have hS : servB (eqG n g) (qI cs) 0 (eqG n g).length = true := by
    rw [servB_iff]
    intro t _ ht
    rw [eqG_len] at ht
    have ht : t < n := by omega
    refine okT_all ?_ ?_
    · obtain ⟨i, hi, ei⟩ := List.mem_iff_getElem.1 (c3 t ht)
      refine ⟨i, by omega, ?_⟩
      rw [rdq i hi, List.getD_eq_getElem?_getD, List.getElem?_eq_getElem hi, Option.getD_some, ei]
    · rw [len, rd_lt (by rw [eqG_len]; exact ht)]
      unfold eqG
      rw [List.getElem_replicate]; exact c2
  have can := serves_can cw hT hR hS
  unfold canW at can
  rw [if_pos cw, eqG_len] at can
  simpa using can

/-- A round no longer than the greatest gap that is asked for: the least equal gap is there, and no greater. -/
theorem leg_round {p r m : Int} (h0 : (roundR p r).2 = 0) (h3 : (legR p r m).2 ≠ 3) (h2 : (legR p r m).2 ≠ 2) (hm : maxV (roundR p r).1 1 ≤ m) : (legR p r m).2 = 0 ∧ ¬ maxV (roundR p r).1 1 < (legR p r m).1 := by
  obtain ⟨g1, g2, g3⟩ := ground_ok p r
  unfold roundR at h0 hm ⊢
  unfold legR at h3 h2 ⊢
  by_cases hg : isGr p r = true
  · have hp := g3 hg
    obtain ⟨n, rfl⟩ := Int.eq_ofNat_of_zero_le (show 0 ≤ p by omega)
    rw [if_pos hg] at h0 hm h3 h2 ⊢
    rw [if_pos hg]
    rw [Int.toNat_natCast] at *
    by_cases hc : ∀ x, x < n → 0 ≤ dis (nrV r) n 0 x
    · rw [if_pos hc] at h0 hm ⊢
      by_cases m1 : 1 ≤ m ∧ m ≤ 10
      · rw [if_pos m1] at h3 h2 ⊢
        by_cases hs : 20000 < (n : Int) * cnt (eqG n m)
        · rw [if_pos hs] at h3; exact absurd rfl h3
        · rw [if_neg hs]
          have b := round_begin (g := maxV (tour (dis (nrV r) n) n 64 0 (2 ^ n - 2)) 1) (by omega) (by omega) hg hc m1.2 (by omega) rfl hm
          have hm : maxV (tour (dis (nrV r) n) n 64 0 (2 ^ n - 2)) 1 ≤ m := hm
          have ge : 1 ≤ maxV (tour (dis (nrV r) n) n 64 0 (2 ^ n - 2)) 1 := by unfold maxV; split <;> omega
          have := leastG_le (m := m) b m.toNat 1 ge (by omega)
          refine ⟨this.1, ?_⟩
          show ¬ maxV (tour (dis (nrV r) n) n 64 0 (2 ^ n - 2)) 1 < _
          omega
      · rw [if_neg m1] at h2; exact absurd rfl h2
    · rw [if_neg hc] at h0; cases h0
  · rw [if_neg hg] at h0; cases h0

end Go.Proofs.Ytcbhhbkghbnljaa.Vf
