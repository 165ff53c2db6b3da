/- Least rounds: what the reference's table of sets gives. -/
import Derived.Test.YtcbhhbkghbnljaaQGrD
set_option linter.unusedVariables false
set_option linter.unusedSimpArgs false
namespace Go.Proofs.Ytcbhhbkghbnljaa.Vf
open Go Go.V Go.RowKit

/-- RowsG of distances. -/
structure RowsG (n : Nat) (r : Int) (X : List (List Int)) : Prop where
  n1 : 1 ≤ n
  n6 : n ≤ 6
  len : X.length = n
  at_ : ∀ i : Nat, i < n → rdOf ([] : List Int) X i = dst (nrV r) n i

theorem RowsG.al {n : Nat} {r : Int} {X : List (List Int)} (R : RowsG n r X) {i : Nat} (hi : i < n) : (rdOf ([] : List Int) X i).length = n := by rw [R.at_ i hi]; exact dst_len hi
theorem RowsG.ad {n : Nat} {r : Int} {X : List (List Int)} (R : RowsG n r X) {i : Nat} (hi : i < n) (j : Nat) : rd (rdOf ([] : List Int) X i) j = dis (nrV r) n i j := by rw [R.at_ i hi]; exact rd_dst

theorem small_idx {n s i : Nat} (h6 : n ≤ 6) (h : s < 2 ^ n) (hi : i < n) : s * n + i < n * 2 ^ n ∧ n * 2 ^ n ≤ 384 ∧ s < 64 := by
  have := pow64 h6
  refine ⟨idx_bnd h hi, ?_, by omega⟩
  calc n * 2 ^ n ≤ 6 * 64 := Nat.mul_le_mul h6 this
    _ = 384 := rfl

theorem widx {n s i : Nat} (h6 : n ≤ 6) (h : s < 2 ^ n) (hi : i < n) : wrap64 (wrap64 ((s : Int) * (n : Int)) + (i : Int)) = ((s * n + i : Nat) : Int) := by
  obtain ⟨b1, b2, _⟩ := small_idx h6 h hi
  rw [show (s : Int) * (n : Int) = ((s * n : Nat) : Int) by rw [Int.natCast_mul], w64 (x := ((s * n : Nat) : Int)) (by omega) (by omega), w64 (by omega) (by omega)]
  omega

theorem spec_l4 {k n s i : Nat} {r : Int} {X : List (List Int)} {r2 : Int → (List Int) → (List (List Int)) → Int → Option (Int × Int)} {r3 : Int → (List Int) → (List (List Int)) → Int → Int → Option (Int × Int)} (R : RowsG n r X) (hs : s < 2 ^ n) (hi : i < n) {own : Int} (h0 : 0 ≤ own) (h1 : own ≤ 1000) : ∀ (d j m : Nat) (L : List Int), j + d = n → d < m → L.length = n * 2 ^ n →
    spec_ShortestRound.l4 k r2 r3 m n L X s i own j = r3 n (rj (dis (nrV r) n) n s i own j d L) X s ((i + 1 : Nat) : Int) := by
  have n6 := R.n6
  have h64 := pow64 n6
  intro d
  induction d with
  | zero =>
    intro j m L hd hm hL
    cases m with
    | zero => omega
    | succ m =>
      simp only [spec_ShortestRound.l4, spec_ShortestRound.s4]
      rw [if_neg (by omega), w64n (by omega)]
      rfl
  | succ d ih =>
    intro j m L hd hm hL
    cases m with
    | zero => omega
    | succ m =>
      have hX := R.len
      have hal := R.al hi
      have up := (dm_ok (r := r) R.n1 n6).up i j hi (by omega)
      have had := R.ad hi j
      simp only [spec_ShortestRound.l4, spec_ShortestRound.s4]
      rw [u64n j (by omega), bitV s (by omega) j (by omega), orB s (by omega) j (by omega), w64n (by omega), had]
      unfold rj rlx
      rw [if_pos (by omega), if_neg (by omega), if_neg (by omega)]
      by_cases hb : s.testBit j = true
      · simp only [if_pos hb]
        rw [if_neg (by decide), if_neg (fun x => by rw [hb] at x; cases x.1)]
        exact ih (j + 1) m L (by omega) (by omega) hL
      · have hb0 : s.testBit j = false := by simpa using hb
        have hbn := bit_addn n (by omega) s (by omega) j (by omega) hs (by omega) hb0
        obtain ⟨q1, q2, _⟩ := small_idx n6 hbn (show j < n by omega)
        simp only [if_neg hb]
        rw [widx n6 hbn (show j < n by omega), rd_nat, if_pos trivial, if_pos (by omega), if_pos (by omega), if_pos (by omega), if_pos (by omega), Int.toNat_natCast]
        by_cases c1 : 0 ≤ dis (nrV r) n i j
        · rw [if_pos c1, if_pos (by omega), if_pos (by omega)]
          rw [w64 (x := own + dis (nrV r) n i j) (by omega) (by omega)]
          by_cases c2 : L.getD ((s + 2 ^ j) * n + j) 0 < 0
          · rw [if_pos c2, if_pos (by omega), if_pos (by omega), if_pos (by omega), if_pos (by omega), if_pos (by omega), if_pos (by omega), if_pos ⟨hb0, c1, Or.inl c2⟩]
            exact ih (j + 1) m _ (by omega) (by omega) (by rw [List.length_set]; exact hL)
          · rw [if_neg c2, if_pos (by omega), if_pos (by omega), if_pos (by omega), if_pos (by omega), if_pos (by omega), if_pos (by omega)]
            by_cases c3 : own + dis (nrV r) n i j < L.getD ((s + 2 ^ j) * n + j) 0
            · rw [if_pos c3, if_pos (by omega), if_pos (by omega), if_pos (by omega), if_pos (by omega), if_pos (by omega), if_pos (by omega), if_pos ⟨hb0, c1, Or.inr c3⟩]
              exact ih (j + 1) m _ (by omega) (by omega) (by rw [List.length_set]; exact hL)
            · rw [if_neg c3, if_neg (fun x => x.2.2.elim c2 c3)]
              exact ih (j + 1) m L (by omega) (by omega) hL
        · rw [if_neg c1, if_neg (fun x => c1 x.2.1)]
          exact ih (j + 1) m L (by omega) (by omega) hL

theorem spec_l3 {k n s : Nat} {r : Int} {X : List (List Int)} {r2 : Int → (List Int) → (List (List Int)) → Int → Option (Int × Int)} (hk : 2097152 ≤ k) (R : RowsG n r X) (s1 : 1 ≤ s) (hs : s < 2 ^ n) : ∀ (d i m : Nat) (L : List Int), i + d = n → d < m → Dp (dis (nrV r) n) n (Qd (dis (nrV r) n) n) s i 0 L →
    spec_ShortestRound.l3 k r2 m n L X s i = r2 n (ri (dis (nrV r) n) n s i d L) X ((s + 1 : Nat) : Int) := by
  have n6 := R.n6
  have h64 := pow64 n6
  have K := qd_ok (dm_ok (r := r) R.n1 n6)
  intro d
  induction d with
  | zero =>
    intro i m L hd hm P
    cases m with
    | zero => omega
    | succ m =>
      simp only [spec_ShortestRound.l3, spec_ShortestRound.s3]
      rw [if_neg (by omega), w64n (by omega)]
      rfl
  | succ d ih =>
    intro i m L hd hm P
    cases m with
    | zero => omega
    | succ m =>
      have hi : i < n := by omega
      have hL := P.len
      obtain ⟨q1, q2, _⟩ := small_idx n6 hs hi
      simp only [spec_ShortestRound.l3, spec_ShortestRound.s3]
      rw [widx n6 hs hi, rd_nat, if_pos (by omega), if_pos (by omega), if_pos (by omega), w64n (by omega)]
      unfold ri
      by_cases c : L.getD (s * n + i) 0 < 0
      · rw [if_pos c, if_pos c]
        refine ih (i + 1) m L (by omega) (by omega) (P.mono fun a b e ha hb he _ hh => ?_)
        by_cases x : a = s ∧ b = i
        · obtain ⟨rfl, rfl⟩ := x
          exact Or.inr fun f => by omega
        · exact Or.inl (by omega)
      · rw [if_neg c, if_neg c]
        have bq := (P.q s i hs hi (by omega)).1
        have e := spec_l4 (k := k) (r2 := r2) (r3 := spec_ShortestRound.l3 k r2 m) R hs hi (own := L.getD (s * n + i) 0) (by omega) (by omega) n 0 k L (by omega) (by omega) hL
        rw [Int.natCast_zero] at e
        rw [e]
        exact ih (i + 1) m _ (by omega) (by omega) ((rj_ok K s1 hs hi _ (by omega) n 0 L (by omega) rfl P).mono fun a b e ha hb he _ hh => Or.inl (by omega))

noncomputable def endG (b : Int) : Int × Int := if b < 0 then (0, 4) else (b, 0)

theorem spec_l5 {k n : Nat} {r : Int} {X : List (List Int)} {L : List Int} (R : RowsG n r X) (hL : L.length = n * 2 ^ n) (up : ∀ i, i < n → L.getD ((2 ^ n - 1) * n + i) 0 ≤ 1000) : ∀ (d i m : Nat) (b : Int), i + d = n → d < m →
    spec_ShortestRound.l5 k m n L X b (((2 ^ n - 1) * n : Nat) : Int) i = some (endG (bst (dis (nrV r) n) n L i d b)) := by
  have n6 := R.n6
  have h64 := pow64 n6
  have p0 := Nat.two_pow_pos n
  intro d
  induction d with
  | zero =>
    intro i m b hd hm
    cases m with
    | zero => omega
    | succ m =>
      simp only [spec_ShortestRound.l5, spec_ShortestRound.s5]
      rw [if_neg (by omega)]
      unfold endG bst
      by_cases c : b < 0
      · rw [if_pos c, if_pos c]
      · rw [if_neg c, if_neg c]
  | succ d ih =>
    intro i m b hd hm
    cases m with
    | zero => omega
    | succ m =>
      have hi : i < n := by omega
      have hX := R.len
      have hal := R.al hi
      have up' := (dm_ok (r := r) R.n1 n6).up i 0 hi (by omega)
      have lo' := dis_low (nr := nrV r) hi (show 0 < n by omega)
      have had := R.ad hi 0
      rw [Int.natCast_zero] at had
      have ui := up i hi
      obtain ⟨q1, q2, _⟩ := small_idx n6 (show 2 ^ n - 1 < 2 ^ n by omega) hi
      simp only [spec_ShortestRound.l5, spec_ShortestRound.s5]
      rw [show wrap64 ((((2 ^ n - 1) * n : Nat) : Int) + (i : Int)) = (((2 ^ n - 1) * n + i : Nat) : Int) by rw [w64 (by omega) (by omega)]; omega]
      rw [rd_nat, had, w64n (by omega), if_pos (by omega), if_pos (by omega), if_pos (by omega)]
      unfold bst
      by_cases c : 0 ≤ L.getD ((2 ^ n - 1) * n + i) 0
      · rw [w64 (x := L.getD ((2 ^ n - 1) * n + i) 0 + dis (nrV r) n i 0) (by omega) (by omega), if_pos c]
        by_cases c1 : b < 0
        · rw [if_pos c1, if_pos (by omega), if_pos (by omega), if_pos (by omega), if_pos (show _ ∧ _ from ⟨c, Or.inl c1⟩)]
          exact ih (i + 1) m _ (by omega) (by omega)
        · rw [if_neg c1, if_pos (by omega), if_pos (by omega), if_pos (by omega)]
          by_cases c2 : L.getD ((2 ^ n - 1) * n + i) 0 + dis (nrV r) n i 0 < b
          · rw [if_pos c2, if_pos (by omega), if_pos (by omega), if_pos (by omega), if_pos (show _ ∧ _ from ⟨c, Or.inr c2⟩)]
            exact ih (i + 1) m _ (by omega) (by omega)
          · rw [if_neg c2, if_neg (fun x => x.2.elim c1 c2)]
            exact ih (i + 1) m _ (by omega) (by omega)
      · rw [if_neg c, if_neg (fun x => c x.1)]
        exact ih (i + 1) m _ (by omega) (by omega)

theorem spec_l2 {k n : Nat} {r : Int} {X : List (List Int)} (hk : 2097152 ≤ k) (R : RowsG n r X) : ∀ (d s m : Nat) (L : List Int), s + d = 2 ^ n → 1 ≤ s → d < m → Dp (dis (nrV r) n) n (Qd (dis (nrV r) n) n) s 0 0 L →
    spec_ShortestRound.l2 k m n L X s = some (endG (bst (dis (nrV r) n) n (rs (dis (nrV r) n) n s d L) 0 n (-1))) := by
  have n1 := R.n1
  have n6 := R.n6
  have h64 := pow64 n6
  have K := qd_ok (dm_ok (r := r) n1 n6)
  intro d
  induction d with
  | zero =>
    intro s m L hd s1 hm P
    cases m with
    | zero => omega
    | succ m =>
      simp only [spec_ShortestRound.l2, spec_ShortestRound.s2]
      rw [u64n n (by omega), shl1 n (by omega), if_neg (by omega), if_neg (by omega), if_neg (by omega)]
      obtain ⟨q1, q2, _⟩ := small_idx n6 (show 2 ^ n - 1 < 2 ^ n by omega) (show 0 < n by omega)
      have p0 := Nat.two_pow_pos n
      rw [show wrap64 (wrap64 (((2 ^ n : Nat) : Int) - 1) * (n : Int)) = (((2 ^ n - 1) * n : Nat) : Int) by
        rw [w64 (x := ((2 ^ n : Nat) : Int) - 1) (by omega) (by omega), show ((2 ^ n : Nat) : Int) - 1 = ((2 ^ n - 1 : Nat) : Int) by omega, ← Int.natCast_mul, w64 (by omega) (by omega)]]
      obtain rfl : s = 2 ^ n := hd
      have e := spec_l5 (k := k) R P.len (fun i hi => by
        by_cases c : 0 ≤ L.getD ((2 ^ n - 1) * n + i) 0
        · have := (P.q (2 ^ n - 1) i (by omega) hi c).1
          omega
        · omega) n 0 k (-1) (by omega) (by omega)
      rw [Int.natCast_zero] at e
      exact e
  | succ d ih =>
    intro s m L hd s1 hm P
    cases m with
    | zero => omega
    | succ m =>
      simp only [spec_ShortestRound.l2, spec_ShortestRound.s2]
      rw [u64n n (by omega), shl1 n (by omega), if_neg (by omega), if_pos (by omega)]
      have e := spec_l3 (k := k) (r2 := spec_ShortestRound.l2 k m) hk R s1 (by omega) n 0 k L (by omega) (by omega) P
      rw [Int.natCast_zero] at e
      rw [e]
      exact ih (s + 1) m _ (by omega) (by omega) (by omega) ((ri_ok K s1 (by omega) n 0 L (by omega) P).mono fun a b e ha hb he _ hh => Or.inl (by omega))

theorem spec_l1 {k n : Nat} {r : Int} (hk : 2097152 ≤ k) (h1 : 1 ≤ n) (h6 : n ≤ 6) {L : List Int} : ∀ (d i m : Nat), i + d = n → d < m →
    spec_ShortestRound.l1 k m n r n L ((List.range i).map (dst (nrV r) n)) i = spec_ShortestRound.l2 k k n L ((List.range n).map (dst (nrV r) n)) 1 := by
  intro d
  induction d with
  | zero =>
    intro i m hd hm
    cases m with
    | zero => omega
    | succ m =>
      simp only [spec_ShortestRound.l1, spec_ShortestRound.s1]
      rw [if_neg (by omega)]
      obtain rfl : i = n := hd
      rfl
  | succ d ih =>
    intro i m hd hm
    cases m with
    | zero => omega
    | succ m =>
      simp only [spec_ShortestRound.l1, spec_ShortestRound.s1]
      rw [if_pos (by omega), spec_dist_f hk h6 (by omega), Option.bind_some, if_pos (by simp; omega), w64n (by omega)]
      rw [show (List.range i).map (dst (nrV r) n) ++ [dst (nrV r) n i] = (List.range (i + 1)).map (dst (nrV r) n) by rw [List.range_succ, List.map_append]; rfl]
      exact ih (i + 1) m (by omega) (by omega)

theorem spec_l0 {k n : Nat} {r : Int} {N : Nat} (hn : n < N) (hN : N ≤ 1000) : ∀ (d j m : Nat), j + d = N → d < m →
    spec_ShortestRound.l0 k m n r n (List.replicate j (-1) ++ List.replicate d 0) N j = spec_ShortestRound.l1 k k n r n ((List.replicate N (-1)).set n 0) [] 0 := by
  intro d
  induction d with
  | zero =>
    intro j m hd hm
    cases m with
    | zero => omega
    | succ m =>
      simp only [spec_ShortestRound.l0, spec_ShortestRound.s0]
      rw [if_neg (by omega), if_pos (by omega), if_pos (by simp; omega)]
      obtain rfl : j = N := hd
      simp
  | succ d ih =>
    intro j m hd hm
    cases m with
    | zero => omega
    | succ m =>
      simp only [spec_ShortestRound.l0, spec_ShortestRound.s0]
      rw [if_pos (by omega), if_pos (by omega), if_pos (by simp; omega), w64n (by omega), Int.toNat_natCast]
      have e : List.set (List.replicate j (-1 : Int) ++ List.replicate (d + 1) (0 : Int)) j (-1) = List.replicate (j + 1) (-1 : Int) ++ List.replicate d (0 : Int) := by
        rw [List.set_append_right _ _ (by simp), List.length_replicate, Nat.sub_self, List.replicate_succ, List.set_cons_zero, List.replicate_succ', List.append_assoc]; rfl
      rw [e]
      exact ih (j + 1) m (by omega) (by omega)

theorem spec_Round_f {k : Nat} {p r : Int} (hk : 2097152 ≤ k) : spec_ShortestRound.f k p r = some (roundR p r) := by
  unfold spec_ShortestRound.f spec_ShortestRound.g roundR
  obtain ⟨g1, g2, g3⟩ := ground_ok p r
  rw [g1, Option.bind_some]
  by_cases hg : isGr p r = true
  · have hp := g3 hg
    obtain ⟨n, rfl⟩ := Int.eq_ofNat_of_zero_le (show 0 ≤ p by omega)
    have n1 : 1 ≤ n := by omega
    have n6 : n ≤ 6 := by omega
    have M := dm_ok (r := r) n1 n6
    have p1 : 2 ≤ 2 ^ n := Nat.pow_le_pow_right (n := 2) (by omega) n1
    obtain ⟨q1, q2, _⟩ := small_idx n6 (show 1 < 2 ^ n by omega) (show 0 < n by omega)
    rw [if_pos hg, if_pos hg, u64n n (by omega), shln n (by omega), if_neg (by omega), if_pos (by omega), if_pos (Int.le_refl _), Int.toNat_natCast, if_pos (by omega), List.length_replicate, Int.toNat_natCast]
    have e0 := spec_l0 (k := k) (n := n) (r := r) (N := n * 2 ^ n) (by omega) (by omega) (n * 2 ^ n) 0 k (by omega) (by omega)
    rw [List.replicate_zero, List.nil_append, Int.natCast_zero] at e0
    rw [e0]
    have e1 := spec_l1 (k := k) (r := r) hk n1 n6 (L := (List.replicate (n * 2 ^ n) (-1)).set n 0) n 0 k (by omega) (by omega)
    rw [Int.natCast_zero] at e1
    rw [show ([] : List (List Int)) = (List.range 0).map (dst (nrV r) n) from rfl, e1]
    have R : RowsG n r ((List.range n).map (dst (nrV r) n)) := ⟨n1, n6, by simp, fun i hi => by rw [rdOf_lt (by simpa using hi)]; simp⟩
    have st := start_ok (qd_ok M) (show Qd (dis (nrV r) n) n 1 0 0 from ⟨by omega, by rw [M.zero]; omega, fun x hx hb => by
      match x with
      | 0 => rw [M.zero]; omega
      | x + 1 => simp [Nat.testBit_succ] at hb, fun H => ⟨64, by have := pow64 n6; omega, by rw [show 2 ^ n - 1 - 1 = 2 ^ n - 2 by omega]; omega⟩⟩)
    have e2 := spec_l2 (k := k) hk R (2 ^ n - 1) 1 k _ (by omega) (Nat.le_refl _) (by have := pow64 n6; omega) st
    rw [Int.natCast_one] at e2
    rw [e2]
    unfold endG
    show some (if bst (dis (nrV r) n) n (table (dis (nrV r) n) n) 0 n (-1) < 0 then (0, 4) else (bst (dis (nrV r) n) n (table (dis (nrV r) n) n) 0 n (-1), 0)) = _
    by_cases c : ∀ x, x < n → 0 ≤ dis (nrV r) n 0 x
    · have H := ds_ok n1 n6 c
      rw [if_pos c, best_eq M H, if_neg (by have := (tour_nn H 64 0 (2 ^ n - 2) (by omega) (by omega)).1; omega)]
    · rw [if_neg c]
      obtain ⟨x, hx⟩ := Classical.not_forall.1 c
      obtain ⟨hx, h⟩ := Classical.not_imp.1 hx
      rw [best_none M hx (by omega)]; rfl
  · rw [if_neg hg, if_neg hg]

end Go.Proofs.Ytcbhhbkghbnljaa.Vf
