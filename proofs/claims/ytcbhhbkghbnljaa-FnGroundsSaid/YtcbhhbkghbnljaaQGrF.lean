/- Lines, stars and rings; places that are near; the least equal gap beside the round. -/
import Derived.Test.YtcbhhbkghbnljaaQGrE
import Derived.Test.YtcbhhbkghbnljaaQ09g
import Derived.Test.YtcbhhbkghbnljaaQRoutes
set_option linter.unusedVariables false
set_option linter.unusedSimpArgs false
namespace Go.Proofs.Ytcbhhbkghbnljaa.Vf
open Go Go.V Go.RowKit

/-! ### Lines, stars and rings -/

def lineN (n : Nat) : Int := [0, 0, 1, 5, 37, 549, 16933].getD n 0
def starN (n : Nat) : Int := [0, 0, 1, 3, 11, 75, 1099].getD n 0
def ringN (n : Nat) : Int := [0, 0, 0, 7, 45, 613, 17957].getD n 0

theorem lineN_step : ∀ i, i < 6 → 1 ≤ i → orV .i64 (lineN i) (roadV ((i : Nat) - 1 : Int) ((i : Nat) : Int)) = lineN (i + 1) := by
  simp only [orV_eq, roadV, shlV_eq]
  decide +kernel
theorem starN_step : ∀ i, i < 6 → 1 ≤ i → orV .i64 (starN i) (roadV 0 ((i : Nat) : Int)) = starN (i + 1) := by
  simp only [orV_eq, roadV, shlV_eq]
  decide +kernel
theorem ringN_step : ∀ i, i < 7 → 3 ≤ i → orV .i64 (lineN i) (roadV 0 ((i : Nat) - 1 : Int)) = ringN i := by
  simp only [orV_eq, roadV, shlV_eq]
  decide +kernel

theorem impl_line_f {k n : Nat} (hk : 2097152 ≤ k) (h1 : 1 ≤ n) (h6 : n ≤ 6) : impl_line.f k n = some ((n : Int), lineN n) := by
  have key : ∀ (d i m : Nat) (a b : Int), i + d = n → 1 ≤ i → d < m → impl_line.l0 k m n a b n (lineN i) i = some ((n : Int), lineN n) := by
    intro d
    induction d with
    | zero =>
      intro i m a b hd hi hm
      cases m with
      | zero => omega
      | succ m =>
        simp only [impl_line.l0, impl_line.s0]
        obtain rfl : i = n := hd
        rw [if_neg (by omega)]
    | succ d ih =>
      intro i m a b hd hi hm
      cases m with
      | zero => omega
      | succ m =>
        simp only [impl_line.l0, impl_line.s0]
        rw [if_pos (by omega), w64n (by omega), w64 (x := (i : Int) - 1) (by omega) (by omega), (road_ok (by omega) (by omega) (by omega) (by omega)).2, Option.bind_some, lineN_step i (by omega) hi]
        exact ih (i + 1) m _ _ (by omega) (by omega) (by omega)
  exact key (n - 1) 1 k 0 0 (by omega) (Nat.le_refl _) (by omega)

theorem spec_line_f {k n : Nat} (hk : 2097152 ≤ k) (h1 : 1 ≤ n) (h6 : n ≤ 6) : spec_l09Line.f k n = some ((n : Int), lineN n) := by
  have key : ∀ (d i m : Nat) (a b : Int), i + d = n → 1 ≤ i → d < m → spec_l09Line.l0 k m n a b n (lineN i) i = some ((n : Int), lineN n) := by
    intro d
    induction d with
    | zero =>
      intro i m a b hd hi hm
      cases m with
      | zero => omega
      | succ m =>
        simp only [spec_l09Line.l0, spec_l09Line.s0]
        obtain rfl : i = n := hd
        rw [if_neg (by omega)]
    | succ d ih =>
      intro i m a b hd hi hm
      cases m with
      | zero => omega
      | succ m =>
        simp only [spec_l09Line.l0, spec_l09Line.s0]
        rw [if_pos (by omega), w64n (by omega), w64 (x := (i : Int) - 1) (by omega) (by omega), (road_ok (by omega) (by omega) (by omega) (by omega)).1, Option.bind_some, lineN_step i (by omega) hi]
        exact ih (i + 1) m _ _ (by omega) (by omega) (by omega)
  exact key (n - 1) 1 k 0 0 (by omega) (Nat.le_refl _) (by omega)

theorem impl_star_l0 {k n : Nat} (hk : 2097152 ≤ k) (h6 : n ≤ 6) : ∀ (d i m : Nat) (a b : Int), i + d = n → 1 ≤ i → d < m → impl_StarGround.l0 k m n a b n (starN i) i = some ((n : Int), starN n, 0) := by
  intro d
  induction d with
  | zero =>
    intro i m a b hd hi hm
    cases m with
    | zero => omega
    | succ m =>
      simp only [impl_StarGround.l0, impl_StarGround.s0]
      obtain rfl : i = n := hd
      rw [if_neg (by omega)]
  | succ d ih =>
    intro i m a b hd hi hm
    cases m with
    | zero => omega
    | succ m =>
      simp only [impl_StarGround.l0, impl_StarGround.s0]
      rw [if_pos (by omega), w64n (by omega), (road_ok (by omega) (by omega) (by omega) (by omega)).2, Option.bind_some, starN_step i (by omega) hi]
      exact ih (i + 1) m _ _ (by omega) (by omega) (by omega)

theorem spec_star_l0 {k n : Nat} (hk : 2097152 ≤ k) (h6 : n ≤ 6) : ∀ (d i m : Nat) (a b : Int), i + d = n → 1 ≤ i → d < m → spec_StarGround.l0 k m n a b n (starN i) i = some ((n : Int), starN n, 0) := by
  intro d
  induction d with
  | zero =>
    intro i m a b hd hi hm
    cases m with
    | zero => omega
    | succ m =>
      simp only [spec_StarGround.l0, spec_StarGround.s0]
      obtain rfl : i = n := hd
      rw [if_neg (by omega)]
  | succ d ih =>
    intro i m a b hd hi hm
    cases m with
    | zero => omega
    | succ m =>
      simp only [spec_StarGround.l0, spec_StarGround.s0]
      rw [if_pos (by omega), w64n (by omega), (road_ok (by omega) (by omega) (by omega) (by omega)).1, Option.bind_some, starN_step i (by omega) hi]
      exact ih (i + 1) m _ _ (by omega) (by omega) (by omega)

def lineR (n : Int) : Int × Int × Int := if 1 ≤ n ∧ n ≤ 6 then (n, lineN n.toNat, 0) else (0, 0, 2)
def starR (n : Int) : Int × Int × Int := if 1 ≤ n ∧ n ≤ 6 then (n, starN n.toNat, 0) else (0, 0, 2)
def ringR (n : Int) : Int × Int × Int := if 3 ≤ n ∧ n ≤ 6 then (n, ringN n.toNat, 0) else (0, 0, 2)

theorem impl_Line_f {k : Nat} (hk : 2097152 ≤ k) (n : Int) : impl_LineGround.f k n = some (lineR n) := by
  unfold impl_LineGround.f impl_isPlaces.f lineR
  rw [within_f, Option.bind_some, Option.bind_some]
  by_cases h : 1 ≤ n ∧ n ≤ 6
  · obtain ⟨m, rfl⟩ := Int.eq_ofNat_of_zero_le (show 0 ≤ n by omega)
    rw [decide_eq_true h, if_pos rfl, if_pos h, impl_line_f hk (by omega) (by omega)]; rfl
  · rw [decide_eq_false h, if_neg h]; rfl
theorem spec_Line_f {k : Nat} (hk : 2097152 ≤ k) (n : Int) : spec_LineGround.f k n = some (lineR n) := by
  unfold spec_LineGround.f lineR
  rw [l01In_f, Option.bind_some]
  by_cases h : 1 ≤ n ∧ n ≤ 6
  · obtain ⟨m, rfl⟩ := Int.eq_ofNat_of_zero_le (show 0 ≤ n by omega)
    rw [decide_eq_true h, if_pos rfl, if_pos h, spec_line_f hk (by omega) (by omega)]; rfl
  · rw [decide_eq_false h, if_neg h]; rfl
theorem impl_Star_f {k : Nat} (hk : 2097152 ≤ k) (n : Int) : impl_StarGround.f k n = some (starR n) := by
  unfold impl_StarGround.f impl_StarGround.g impl_isPlaces.f starR
  rw [within_f, Option.bind_some, Option.bind_some]
  by_cases h : 1 ≤ n ∧ n ≤ 6
  · obtain ⟨m, rfl⟩ := Int.eq_ofNat_of_zero_le (show 0 ≤ n by omega)
    rw [decide_eq_true h, if_pos rfl, if_pos h]
    exact impl_star_l0 hk (by omega) (m - 1) 1 k 0 0 (by omega) (Nat.le_refl _) (by omega)
  · rw [decide_eq_false h, if_neg h]; rfl
theorem spec_Star_f {k : Nat} (hk : 2097152 ≤ k) (n : Int) : spec_StarGround.f k n = some (starR n) := by
  unfold spec_StarGround.f spec_StarGround.g starR
  rw [l01In_f, Option.bind_some]
  by_cases h : 1 ≤ n ∧ n ≤ 6
  · obtain ⟨m, rfl⟩ := Int.eq_ofNat_of_zero_le (show 0 ≤ n by omega)
    rw [decide_eq_true h, if_pos rfl, if_pos h]
    exact spec_star_l0 hk (by omega) (m - 1) 1 k 0 0 (by omega) (Nat.le_refl _) (by omega)
  · rw [decide_eq_false h, if_neg h]; rfl
theorem impl_Ring_f {k : Nat} (hk : 2097152 ≤ k) (n : Int) : impl_RingGround.f k n = some (ringR n) := by
  unfold impl_RingGround.f ringR
  rw [within_f, Option.bind_some]
  by_cases h : 3 ≤ n ∧ n ≤ 6
  · obtain ⟨m, rfl⟩ := Int.eq_ofNat_of_zero_le (show 0 ≤ n by omega)
    rw [decide_eq_true h, if_pos rfl, if_pos h, impl_line_f hk (by omega) (by omega), Option.bind_some, w64 (x := (m : Int) - 1) (by omega) (by omega), (road_ok (by omega) (by omega) (by omega) (by omega)).2, Option.bind_some, ringN_step m (by omega) (by omega)]; rfl
  · rw [decide_eq_false h, if_neg h]; rfl
theorem spec_Ring_f {k : Nat} (hk : 2097152 ≤ k) (n : Int) : spec_RingGround.f k n = some (ringR n) := by
  unfold spec_RingGround.f ringR
  rw [l01In_f, Option.bind_some]
  by_cases h : 3 ≤ n ∧ n ≤ 6
  · obtain ⟨m, rfl⟩ := Int.eq_ofNat_of_zero_le (show 0 ≤ n by omega)
    rw [decide_eq_true h, if_pos rfl, if_pos h, spec_line_f hk (by omega) (by omega), Option.bind_some, w64 (x := (m : Int) - 1) (by omega) (by omega), (road_ok (by omega) (by omega) (by omega) (by omega)).1, Option.bind_some, ringN_step m (by omega) (by omega)]; rfl
  · rw [decide_eq_false h, if_neg h]; rfl

/-! ### Their rounds -/

theorem Wk.congr {nr nr' : Nat → Nat → Bool} {n : Nat} (h : ∀ a b, a < n → b < n → nr a b = nr' a b) : ∀ {l : List Nat} {a b : Nat}, a < n → Wk nr n a l b → Wk nr' n a l b
  | [], _, _, _, w => w
  | _ :: _, _, _, ha, ⟨e, c, h1, h2, h3⟩ => ⟨e, c, h1, by rw [← h _ _ ha h1]; exact h2, h3.congr h h1⟩

theorem dis_congr {nr nr' : Nat → Nat → Bool} {n i j : Nat} (h : ∀ a b, a < n → b < n → nr a b = nr' a b) (hi : i < n) (hj : j < n) : dis nr n i j = dis nr' n i j := by
  have key : ∀ {nr nr' : Nat → Nat → Bool}, (∀ a b, a < n → b < n → nr a b = nr' a b) → 0 ≤ dis nr n i j → 0 ≤ dis nr' n i j ∧ dis nr' n i j ≤ dis nr n i j := fun {nr nr'} h h0 => by
    obtain ⟨l, hl, w⟩ := dis_wk hi hj h0
    have := dis_of hi (w.congr h hi)
    exact ⟨this.1, by omega⟩
  have b1 := dis_low (nr := nr) hi hj
  have b2 := dis_low (nr := nr') hi hj
  have h' : ∀ a b, a < n → b < n → nr' a b = nr a b := fun a b x y => (h a b x y).symm
  by_cases c : 0 ≤ dis nr n i j
  · have k1 := key h c
    have k2 := key h' k1.1
    omega
  · by_cases c' : 0 ≤ dis nr' n i j
    · have := key h' c'; omega
    · omega

theorem tl_congr {D D' g g' : Nat → Nat → Int} {a s n : Nat} (hD : ∀ i, i < n → D a i = D' a i) (hg : ∀ p, p < n → g p (s - 2 ^ p) = g' p (s - 2 ^ p)) : ∀ (d i : Nat) (b : Int), i + d = n → tl D g a s i d b = tl D' g' a s i d b
  | 0, _, _, _ => rfl
  | d + 1, i, b, hd => by
    unfold tl
    rw [hD i (by omega), hg i (by omega), tl_congr hD hg d (i + 1) _ (by omega), tl_congr hD hg d (i + 1) _ (by omega)]

theorem tour_congr {D D' : Nat → Nat → Int} {n : Nat} (h : ∀ i j, i < n → j < n → D i j = D' i j) : ∀ (f a s : Nat), a < n → tour D n f a s = tour D' n f a s
  | 0, a, s, ha => h a 0 ha (by omega)
  | f + 1, a, s, ha => by
    unfold tour
    rw [h a 0 ha (by omega), tl_congr (D' := D') (g' := tour D' n f) (n := n) (fun i hi => h a i ha hi) (fun p hp => tour_congr h f p _ hp) n 0 (-1) (by omega)]

/-- Near, by a number's bit. -/
def nrC (r : Nat) (a b : Nat) : Bool := decide (a = b) || r.testBit ((if a < b then b else a) * ((if a < b then b else a) - 1) / 2 + (if a < b then a else b))

theorem nrC_ok : ∀ r, r ∈ [0, 1, 5, 37, 549, 16933, 3, 11, 75, 1099, 7, 45, 613, 17957] → ∀ a, a < 6 → ∀ b, b < 6 → nrV ((r : Nat) : Int) a b = nrC r a b := by
  simp only [nrV, nearV, roadV, andV_eq, shlV_eq]
  decide +kernel

def disC (r n : Nat) : Nat → Nat → Int := fun i j => ((List.range n).map (dst (nrC r) n) |>.getD i []).getD j 0

theorem line_dis : ∀ n, n < 7 → 1 ≤ n → ∀ x, x < n → 0 ≤ dis (nrC (lineN n).toNat) n 0 x := by decide +kernel
theorem star_dis : ∀ n, n < 7 → 1 ≤ n → ∀ x, x < n → 0 ≤ dis (nrC (starN n).toNat) n 0 x := by decide +kernel
theorem ring_dis : ∀ n, n < 7 → 3 ≤ n → ∀ x, x < n → 0 ≤ dis (nrC (ringN n).toNat) n 0 x := by decide +kernel

end Go.Proofs.Ytcbhhbkghbnljaa.Vf
