/- Means and counts of waits: program and reference give the same. -/
import Derived.Test.YtmgdobiloapelaaQWtA
set_option linter.unusedVariables false
set_option linter.unusedSimpArgs false
namespace Go.Proofs.Ytmgdobiloapelaa.Vf
open Go Go.V Go.RowKit

def sumL (cs : List Int) (i j : Int) : Nat → Nat → Int
  | 0, _ => 0
  | d + 1, s => maxV (wt cs i s) (wt cs j s) + sumL cs i j d (s + 1)

theorem maxV_bnd {a b m : Int} (h1 : 0 ≤ a ∧ a < m) (h2 : 0 ≤ b ∧ b < m) : 0 ≤ maxV a b ∧ maxV a b < m := by unfold maxV; split <;> omega
theorem maxV_self (a : Int) : maxV a a = a := by unfold maxV; split <;> rfl

theorem sumL_bnd {cs : List Int} {i j : Int} (hi : i ∈ cs) (hj : j ∈ cs) (hl : cs.length ≤ 120) : ∀ (d s : Nat), s + d ≤ cs.length → 0 ≤ sumL cs i j d s ∧ sumL cs i j d s ≤ d * 120
  | 0, s, h => by simp [sumL]
  | d + 1, s, h => by
    have h1 := maxV_bnd (wt_bnd (s := s) hi (by omega)) (wt_bnd (s := s) hj (by omega))
    have h2 := sumL_bnd hi hj hl d (s + 1) (by omega)
    simp only [sumL]
    push_cast
    omega

theorem impl_sum_f {k : Nat} {cs : List Int} (hk : 2097152 ≤ k) {i : Int} (hi : i ∈ cs) (hl : cs.length ≤ 120) : impl_sumOfWaits.f k cs i = some (sumL cs i i cs.length 0) := by
  have key : ∀ (d s n : Nat) (a : Int), cs.length - s = d → s ≤ cs.length → d < n → 0 ≤ a → a ≤ s * 120 → impl_sumOfWaits.l0 k n cs i a cs.length s = some (a + sumL cs i i d s) := by
    intro d
    induction d with
    | zero =>
      intro s n a hd hs hn h0 h1
      cases n with
      | zero => omega
      | succ n =>
        simp only [impl_sumOfWaits.l0, impl_sumOfWaits.s0]
        rw [if_neg (by omega)]; simp [sumL]
    | succ d ih =>
      intro s n a hd hs hn h0 h1
      cases n with
      | zero => omega
      | succ n =>
        have b := wt_bnd (s := s) hi (by omega)
        simp only [impl_sumOfWaits.l0, impl_sumOfWaits.s0]
        rw [w64n (by omega), if_pos (by omega), impl_wait_f hk (by omega) hi (by omega), Option.bind_some, w64 (by omega) (by omega), ih (s + 1) n _ (by omega) (by omega) (by omega) (by omega) (by push_cast; omega)]
        simp only [sumL, maxV_self]
        congr 1; omega
  unfold impl_sumOfWaits.f impl_sumOfWaits.g
  rw [length_f, Option.bind_some]
  have := key cs.length 0 k 0 (by omega) (by omega) (by omega) (by omega) (by omega)
  rw [Int.zero_add] at this
  exact this

theorem spec_sum_f {k : Nat} {cs : List Int} (hk : 2097152 ≤ k) {i j : Int} (hi : i ∈ cs) (hj : j ∈ cs) (hl : cs.length ≤ 120) : spec_l10Sum.f k cs i j = some (sumL cs i j cs.length 0) := by
  have key : ∀ (d s n : Nat) (a : Int), cs.length - s = d → s ≤ cs.length → d < n → 0 ≤ a → a ≤ s * 120 → spec_l10Sum.l0 k n cs i j a s = some (a + sumL cs i j d s) := by
    intro d
    induction d with
    | zero =>
      intro s n a hd hs hn h0 h1
      cases n with
      | zero => omega
      | succ n =>
        simp only [spec_l10Sum.l0, spec_l10Sum.s0]
        rw [if_neg (by omega)]; simp [sumL]
    | succ d ih =>
      intro s n a hd hs hn h0 h1
      cases n with
      | zero => omega
      | succ n =>
        have b := maxV_bnd (wt_bnd (s := s) hi (by omega)) (wt_bnd (s := s) hj (by omega))
        simp only [spec_l10Sum.l0, spec_l10Sum.s0]
        rw [w64n (by omega), if_pos (by omega), spec_wait_f hk (by omega) i (by omega), Option.bind_some, spec_wait_f hk (by omega) j (by omega), Option.bind_some, w64 (by omega) (by omega), ih (s + 1) n _ (by omega) (by omega) (by omega) (by omega) (by push_cast; omega)]
        simp only [sumL]
        congr 1; omega
  unfold spec_l10Sum.f spec_l10Sum.g
  have := key cs.length 0 k 0 (by omega) (by omega) (by omega) (by omega) (by omega)
  rw [Int.zero_add] at this
  exact this

theorem wcode_slot {cs ts : List Int} : wcode cs (decide ((0 : Int) ≤ 0 ∧ (0 : Int) < cs.length)) ts = wcode cs true ts := by
  unfold wcode
  by_cases h : turnsW 8 cs = true
  · have := (turnsW_len h)
    rw [decide_eq_true (by omega)]
  · rw [Bool.not_eq_true] at h
    rw [h, Bool.false_and, Bool.false_and]
where
  turnsW_len {cs : List Int} (h : turnsW 8 cs = true) : 1 ≤ cs.length := by
    unfold turnsW at h
    rw [Bool.and_eq_true] at h
    exact (of_decide_eq_true h.1).1

theorem sum_le {cs : List Int} {i j : Int} (hi : i ∈ cs) (hj : j ∈ cs) (hl : cs.length ≤ 120) : 0 ≤ sumL cs i j cs.length 0 ∧ sumL cs i j cs.length 0 ≤ 14400 := by
  have := sumL_bnd hi hj hl cs.length 0 (by omega)
  omega

/-- What is known of a mean. -/
structure MeanR (cs : List Int) (ts : List Int) (S : Int) (r : Int × Int × Int) : Prop where
  code : r.2.2 = wcode cs true ts
  good : wcode cs true ts = 0 → ∃ g : Int, 1 ≤ g ∧ g * r.1 = S ∧ g * r.2.1 = cs.length
  bad : wcode cs true ts ≠ 0 → r.1 = 0

theorem meanWait_both {k : Nat} {cs : List Int} (hk : 2097152 ≤ k) (hl : cs.length ≤ 1048576) (i : Int) : ∃ r, impl_MeanWait.f k cs i = some r ∧ spec_MeanWait.f k cs i = some r ∧ MeanR cs [i] (sumL cs i i cs.length 0) r := by
  unfold impl_MeanWait.f spec_MeanWait.f
  rw [impl_code_f hk hl (by simp), Option.bind_some, spec_code_f hk hl (by simp), Option.bind_some, wcode_slot]
  by_cases h : wcode cs true [i] = 0
  · obtain ⟨⟨h1, h2⟩, _, _, h5⟩ := code_zero h
    have hi := h5 i (by simp)
    have hb := sum_le hi hi h2
    obtain ⟨t, w, g, g1, g2, g3, e1, e2⟩ := fraction_ok (k := k) hk (a := sumL cs i i cs.length 0) (b := cs.length) hb.1 (by omega) h1 (by omega)
    rw [if_pos h, if_pos h, impl_sum_f hk hi h2, Option.bind_some, length_f, Option.bind_some, e1, Option.bind_some, spec_sum_f hk hi hi h2, Option.bind_some, e2, Option.bind_some]
    exact ⟨_, rfl, rfl, h.symm, fun _ => ⟨g, g1, g2, g3⟩, fun hn => absurd h hn⟩
  · rw [if_neg h, if_neg h]
    exact ⟨_, rfl, rfl, rfl, fun h0 => absurd h0 h, fun _ => rfl⟩

theorem meanBoth_both {k : Nat} {cs : List Int} (hk : 2097152 ≤ k) (hl : cs.length ≤ 1048576) (i j : Int) : ∃ r, impl_MeanForBoth.f k cs i j = some r ∧ spec_MeanForBoth.f k cs i j = some r ∧ MeanR cs [i, j] (sumL cs i j cs.length 0) r := by
  unfold impl_MeanForBoth.f impl_MeanForBoth.g spec_MeanForBoth.f
  rw [impl_code_f hk hl (by simp), Option.bind_some, spec_code_f hk hl (by simp), Option.bind_some, wcode_slot]
  by_cases h : wcode cs true [i, j] = 0
  · obtain ⟨⟨h1, h2⟩, _, _, h5⟩ := code_zero h
    have hi := h5 i (by simp)
    have hj := h5 j (by simp)
    have hb := sum_le hi hj h2
    obtain ⟨t, w, g, g1, g2, g3, e1, e2⟩ := fraction_ok (k := k) hk (a := sumL cs i j cs.length 0) (b := cs.length) hb.1 (by omega) h1 (by omega)
    have key : ∀ (d s n : Nat) (a : Int), cs.length - s = d → s ≤ cs.length → d < n → 0 ≤ a → a ≤ s * 120 → impl_MeanForBoth.l0 k n cs i j a cs.length s = (impl_fraction.f k (a + sumL cs i j d s) cs.length).bind fun t6 => some (t6.1, t6.2.1, t6.2.2) := by
      intro d
      induction d with
      | zero =>
        intro s n a hd hs hn h0 h1
        cases n with
        | zero => omega
        | succ n =>
          simp only [impl_MeanForBoth.l0, impl_MeanForBoth.s0]
          rw [if_neg (by omega), length_f, Option.bind_some]; simp [sumL]
      | succ d ih =>
        intro s n a hd hs hn h0 h1
        cases n with
        | zero => omega
        | succ n =>
          have b := maxV_bnd (wt_bnd (s := s) hi (by omega)) (wt_bnd (s := s) hj (by omega))
          simp only [impl_MeanForBoth.l0, impl_MeanForBoth.s0]
          rw [w64n (by omega), if_pos (by omega), impl_wait_f hk (by omega) hi (by omega), Option.bind_some, impl_wait_f hk (by omega) hj (by omega), Option.bind_some, w64 (by omega) (by omega), ih (s + 1) n _ (by omega) (by omega) (by omega) (by omega) (by push_cast; omega)]
          simp only [sumL]
          rw [Int.add_assoc]
    have hrun := key cs.length 0 k 0 (by omega) (by omega) (by omega) (by omega) (by omega)
    rw [Int.zero_add, e1, Option.bind_some] at hrun
    rw [if_pos h, if_pos h, length_f, Option.bind_some, spec_sum_f hk hi hj h2, Option.bind_some, e2, Option.bind_some]
    exact ⟨_, hrun, rfl, h.symm, fun _ => ⟨g, g1, g2, g3⟩, fun hn => absurd h hn⟩
  · rw [if_neg h, if_neg h]
    exact ⟨_, rfl, rfl, rfl, fun h0 => absurd h0 h, fun _ => rfl⟩

/-! ### The worst slot -/

def wrs (cs : List Int) (i : Int) : Nat → Nat → Int → Int → Int × Int
  | 0, _, b, m => (b, m)
  | d + 1, s, b, m => if m < wt cs i s then wrs cs i d (s + 1) s (wt cs i s) else wrs cs i d (s + 1) b m

theorem wrs_spec {cs : List Int} {i : Int} : ∀ (d s : Nat) (b m : Int), m ≤ (wrs cs i d s b m).2 ∧ (∀ u, s ≤ u → u < s + d → wt cs i u ≤ (wrs cs i d s b m).2) ∧ ((wrs cs i d s b m).2 = m ∨ ∃ u, s ≤ u ∧ u < s + d ∧ (wrs cs i d s b m).2 = wt cs i u)
  | 0, s, b, m => ⟨Int.le_refl _, fun u h1 h2 => by omega, .inl rfl⟩
  | d + 1, s, b, m => by
    unfold wrs
    by_cases c : m < wt cs i s
    · rw [if_pos c]
      obtain ⟨h1, h2, h3⟩ := wrs_spec (cs := cs) (i := i) d (s + 1) s (wt cs i s)
      refine ⟨by omega, fun u h4 h5 => ?_, ?_⟩
      · by_cases e : u = s
        · rw [e]; exact h1
        · exact h2 u (by omega) (by omega)
      · rcases h3 with h3 | ⟨u, h4, h5, h6⟩
        · exact .inr ⟨s, by omega, by omega, h3⟩
        · exact .inr ⟨u, by omega, by omega, h6⟩
    · rw [if_neg c]
      obtain ⟨h1, h2, h3⟩ := wrs_spec (cs := cs) (i := i) d (s + 1) b m
      refine ⟨h1, fun u h4 h5 => ?_, ?_⟩
      · by_cases e : u = s
        · rw [e]; omega
        · exact h2 u (by omega) (by omega)
      · rcases h3 with h3 | ⟨u, h4, h5, h6⟩
        · exact .inl h3
        · exact .inr ⟨u, by omega, by omega, h6⟩

theorem worst_both {k : Nat} {cs : List Int} (hk : 2097152 ≤ k) (hl : cs.length ≤ 1048576) (i : Int) : ∃ r, impl_WorstSlot.f k cs i = some r ∧ spec_WorstSlot.f k cs i = some r ∧ r.2.2 = wcode cs true [i] ∧
    (wcode cs true [i] = 0 → (∀ s, s < cs.length → wt cs i s ≤ r.2.1) ∧ ∃ s, s < cs.length ∧ r.2.1 = wt cs i s) := by
  unfold impl_WorstSlot.f impl_WorstSlot.g spec_WorstSlot.f spec_WorstSlot.g
  rw [impl_code_f hk hl (by simp), Option.bind_some, spec_code_f hk hl (by simp), Option.bind_some, wcode_slot]
  by_cases h : wcode cs true [i] = 0
  · obtain ⟨⟨h1, h2⟩, _, _, h5⟩ := code_zero h
    have hi := h5 i (by simp)
    have ki : ∀ (d s n : Nat) (b m : Int), cs.length - s = d → s ≤ cs.length → d < n → impl_WorstSlot.l0 k n cs i b m cs.length s = some ((wrs cs i d s b m).1, (wrs cs i d s b m).2, 0) := by
      intro d
      induction d with
      | zero =>
        intro s n b m hd hs hn
        cases n with
        | zero => omega
        | succ n =>
          simp only [impl_WorstSlot.l0, impl_WorstSlot.s0]
          rw [if_neg (by omega)]; rfl
      | succ d ih =>
        intro s n b m hd hs hn
        cases n with
        | zero => omega
        | succ n =>
          simp only [impl_WorstSlot.l0, impl_WorstSlot.s0]
          rw [w64n (by omega), if_pos (by omega), impl_wait_f hk (by omega) hi (by omega), Option.bind_some, ih (s + 1) n _ _ (by omega) (by omega) (by omega), ih (s + 1) n _ _ (by omega) (by omega) (by omega)]
          simp only [wrs]
          split <;> rfl
    have ks : ∀ (d s n : Nat) (b m : Int), cs.length - s = d → s ≤ cs.length → d < n → spec_WorstSlot.l0 k n cs i b m s = some ((wrs cs i d s b m).1, (wrs cs i d s b m).2, 0) := by
      intro d
      induction d with
      | zero =>
        intro s n b m hd hs hn
        cases n with
        | zero => omega
        | succ n =>
          simp only [spec_WorstSlot.l0, spec_WorstSlot.s0]
          rw [if_neg (by omega)]; rfl
      | succ d ih =>
        intro s n b m hd hs hn
        cases n with
        | zero => omega
        | succ n =>
          simp only [spec_WorstSlot.l0, spec_WorstSlot.s0]
          rw [w64n (by omega), if_pos (by omega), spec_wait_f hk (by omega) i (by omega), Option.bind_some, ih (s + 1) n _ _ (by omega) (by omega) (by omega), ih (s + 1) n _ _ (by omega) (by omega) (by omega)]
          simp only [wrs]
          split <;> rfl
    obtain ⟨d, hd⟩ : ∃ d, cs.length = d + 1 := ⟨cs.length - 1, by omega⟩
    have b0 := wt_bnd (s := 0) hi (by omega)
    -- the first slot brings both together
    have e : wrs cs i cs.length 0 0 0 = wrs cs i cs.length 0 0 (-1) := by
      rw [hd]
      simp only [wrs]
      rw [if_pos (show (-1 : Int) < wt cs i 0 by omega)]
      by_cases c : 0 < wt cs i 0
      · rw [if_pos c]
      · rw [if_neg c, show wt cs i 0 = 0 by omega]; rfl
    have e1 := ki cs.length 0 k 0 0 (by omega) (by omega) (by omega)
    have e2 := ks cs.length 0 k 0 (-1) (by omega) (by omega) (by omega)
    rw [e] at e1
    obtain ⟨w1, w2, w3⟩ := wrs_spec (cs := cs) (i := i) cs.length 0 0 (-1)
    rw [if_pos h, if_pos h, length_f, Option.bind_some]
    refine ⟨_, e1, e2, h.symm, fun _ => ⟨fun s hs => w2 s (by omega) (by omega), ?_⟩⟩
    rcases w3 with w3 | ⟨u, _, u2, u3⟩
    · have := w2 0 (by omega) (by omega); omega
    · exact ⟨u, by omega, u3⟩
  · rw [if_neg h, if_neg h]
    exact ⟨_, rfl, rfl, rfl, fun h0 => absurd h0 h⟩

/-! ### Counts -/

def cntL (cs : List Int) (i m : Int) : Nat → Nat → Int
  | 0, _ => 0
  | d + 1, s => (if wt cs i s ≤ m then 1 else 0) + cntL cs i m d (s + 1)

theorem cntL_bnd (cs : List Int) (i m : Int) : ∀ (d s : Nat), 0 ≤ cntL cs i m d s ∧ cntL cs i m d s ≤ d ∧ (cntL cs i m d s = d ↔ ∀ u, s ≤ u → u < s + d → wt cs i u ≤ m)
  | 0, s => ⟨by simp [cntL], by simp [cntL], by simp [cntL]; intro u h1 h2; omega⟩
  | d + 1, s => by
    obtain ⟨h1, h2, h3⟩ := cntL_bnd cs i m d (s + 1)
    simp only [cntL]
    by_cases c : wt cs i s ≤ m
    · rw [if_pos c]
      refine ⟨by omega, by push_cast; omega, ?_⟩
      constructor
      · intro h u h4 h5
        by_cases e : u = s
        · rw [e]; exact c
        · exact h3.1 (by push_cast at h; omega) u (by omega) (by omega)
      · intro h
        have := h3.2 fun u h4 h5 => h u (by omega) (by omega)
        push_cast; omega
    · rw [if_neg c]
      refine ⟨by omega, by push_cast; omega, ?_⟩
      constructor
      · intro h; push_cast at h; omega
      · intro h; exact absurd (h s (by omega) (by omega)) c

theorem count_both {k : Nat} {cs : List Int} (hk : 2097152 ≤ k) (hl : cs.length ≤ 1048576) (i m : Int) : ∃ r, impl_CountWithin.f k cs i m = some r ∧ spec_CountWithin.f k cs i m = some r ∧ (r.2 = 0 → wcode cs true [i] = 0 ∧ r.1 = cntL cs i m cs.length 0) := by
  unfold impl_CountWithin.f impl_CountWithin.g spec_CountWithin.f spec_CountWithin.g
  rw [within_f, Option.bind_some, impl_code_f hk hl (by simp), Option.bind_some, spec_code_f hk hl (by simp), Option.bind_some, wcode_slot]
  have run : wcode cs true [i] = 0 → impl_CountWithin.l0 k k cs i m 0 cs.length 0 = some (cntL cs i m cs.length 0, 0) ∧ spec_CountWithin.l0 k k cs i m 0 0 = some (cntL cs i m cs.length 0, 0) := by
    intro h
    obtain ⟨⟨h1, h2⟩, _, _, h5⟩ := code_zero h
    have hi := h5 i (by simp)
    have key : ∀ (d s n : Nat) (a : Int), cs.length - s = d → s ≤ cs.length → d < n → 0 ≤ a → a ≤ s → impl_CountWithin.l0 k n cs i m a cs.length s = some (a + cntL cs i m d s, 0) ∧ spec_CountWithin.l0 k n cs i m a s = some (a + cntL cs i m d s, 0) := by
      intro d
      induction d with
      | zero =>
        intro s n a hd hs hn h0 h1
        cases n with
        | zero => omega
        | succ n =>
          simp only [impl_CountWithin.l0, impl_CountWithin.s0, spec_CountWithin.l0, spec_CountWithin.s0]
          rw [if_neg (by omega), if_neg (by omega)]; simp [cntL]
      | succ d ih =>
        intro s n a hd hs hn h0 h1
        cases n with
        | zero => omega
        | succ n =>
          simp only [impl_CountWithin.l0, impl_CountWithin.s0, spec_CountWithin.l0, spec_CountWithin.s0]
          rw [w64n (by omega), if_pos (by omega), if_pos (by omega), impl_wait_f hk (by omega) hi (by omega), Option.bind_some, spec_wait_f hk (by omega) i (by omega), Option.bind_some, w64 (x := a + 1) (by omega) (by omega)]
          simp only [cntL]
          by_cases c : wt cs i s ≤ m
          · obtain ⟨q1, q2⟩ := ih (s + 1) n (a + 1) (by omega) (by omega) (by omega) (by omega) (by push_cast; omega)
            rw [if_pos c, if_pos c, if_pos c, q1, q2, Int.add_assoc]
            exact ⟨rfl, rfl⟩
          · obtain ⟨q1, q2⟩ := ih (s + 1) n a (by omega) (by omega) (by omega) (by omega) (by push_cast; omega)
            rw [if_neg c, if_neg c, if_neg c, q1, q2, Int.zero_add]
            exact ⟨rfl, rfl⟩
    have := key cs.length 0 k 0 (by omega) (by omega) (by omega) (by omega) (by omega)
    rw [Int.zero_add] at this
    exact this
  by_cases hm : 0 ≤ m ∧ m ≤ 120
  · rw [decide_eq_true hm]
    by_cases h : wcode cs true [i] = 0
    · obtain ⟨r1, r2⟩ := run h
      rw [if_pos h, length_f, Option.bind_some, if_neg (by omega), l01In_f, Option.bind_some, if_pos (decide_eq_true hm), if_pos h]
      exact ⟨_, r1, r2, fun _ => ⟨h, rfl⟩⟩
    · rw [if_neg h]
      by_cases h2 : wcode cs true [i] = 2
      · rw [if_pos h2, if_neg h]
        exact ⟨_, rfl, rfl, fun h0 => absurd h0 h⟩
      · rw [if_neg h2, l01In_f, Option.bind_some, if_pos (decide_eq_true hm), if_neg h]
        exact ⟨_, rfl, rfl, fun h0 => absurd h0 h⟩
  · have e : wcode cs (decide (0 ≤ m ∧ m ≤ 120)) [i] = 2 := by
      rw [decide_eq_false hm]
      unfold wcode
      rw [Bool.false_and, Bool.and_false]; rfl
    rw [e, if_neg (by decide)]
    by_cases h2 : wcode cs true [i] = 2
    · rw [if_pos h2, if_neg (by omega), h2]
      exact ⟨_, rfl, rfl, fun h0 => absurd h0 (by decide)⟩
    · rw [if_neg h2, l01In_f, Option.bind_some, if_neg (by simpa using hm)]
      exact ⟨_, rfl, rfl, fun h0 => absurd h0 (by decide)⟩

/-! ### From one slot -/

def slotB (cs : List Int) (s : Int) : Bool := decide (0 ≤ s ∧ s < cs.length)

theorem isSlot_f {cs : List Int} (hl : cs.length ≤ 1048576) (s : Int) : impl_isSlot.f cs s = some (slotB cs s) := by
  unfold impl_isSlot.f slotB
  rw [length_f, Option.bind_some, within_f, Option.bind_some, w64 (by omega) (by omega)]
  congr 1
  rw [decide_eq_decide]; omega

noncomputable def fromR (cs : List Int) (i s : Int) : Int × Int := if wcode cs (slotB cs s) [i] = 0 then (wt cs i s.toNat, 0) else (0, wcode cs (slotB cs s) [i])

theorem from_slot {cs ts : List Int} {s : Int} (h : wcode cs (slotB cs s) ts = 0) : ∃ n : Nat, s = n ∧ n < cs.length := by
  have := (code_zero h).2.1
  have := of_decide_eq_true this
  exact ⟨s.toNat, by omega, by omega⟩

theorem impl_WaitFrom_f {k : Nat} {cs : List Int} (hk : 2097152 ≤ k) (hl : cs.length ≤ 1048576) (i s : Int) : impl_WaitFrom.f k cs i s = some (fromR cs i s) := by
  unfold impl_WaitFrom.f fromR
  rw [isSlot_f hl, Option.bind_some, impl_code_f hk hl (by simp), Option.bind_some]
  by_cases h : wcode cs (slotB cs s) [i] = 0
  · obtain ⟨n, rfl, hn⟩ := from_slot h
    rw [if_pos h, if_pos h, impl_wait_f hk hl ((code_zero h).2.2.2 i (by simp)) hn, Option.bind_some, Int.toNat_natCast]
  · rw [if_neg h, if_neg h]

theorem spec_WaitFrom_f {k : Nat} {cs : List Int} (hk : 2097152 ≤ k) (hl : cs.length ≤ 1048576) (i s : Int) : spec_WaitFrom.f k cs i s = some (fromR cs i s) := by
  unfold spec_WaitFrom.f fromR
  rw [spec_code_f hk hl (by simp), Option.bind_some]
  show (if wcode cs (slotB cs s) [i] = 0 then _ else some (0, wcode cs (slotB cs s) [i])) = _
  by_cases h : wcode cs (slotB cs s) [i] = 0
  · obtain ⟨n, rfl, hn⟩ := from_slot h
    rw [if_pos h, if_pos h, spec_wait_f hk hl i hn, Option.bind_some, Int.toNat_natCast]
  · rw [if_neg h, if_neg h]

noncomputable def bothR (cs : List Int) (i j s : Int) : Int × Int := if wcode cs (slotB cs s) [i, j] = 0 then (maxV (wt cs i s.toNat) (wt cs j s.toNat), 0) else (0, wcode cs (slotB cs s) [i, j])

theorem impl_WaitForBoth_f {k : Nat} {cs : List Int} (hk : 2097152 ≤ k) (hl : cs.length ≤ 1048576) (i j s : Int) : impl_WaitForBoth.f k cs i j s = some (bothR cs i j s) := by
  unfold impl_WaitForBoth.f bothR
  rw [isSlot_f hl, Option.bind_some, impl_code_f hk hl (by simp), Option.bind_some]
  by_cases h : wcode cs (slotB cs s) [i, j] = 0
  · obtain ⟨n, rfl, hn⟩ := from_slot h
    rw [if_pos h, if_pos h, impl_wait_f hk hl ((code_zero h).2.2.2 i (by simp)) hn, Option.bind_some, impl_wait_f hk hl ((code_zero h).2.2.2 j (by simp)) hn, Option.bind_some, Int.toNat_natCast]
  · rw [if_neg h, if_neg h]

theorem spec_WaitForBoth_f {k : Nat} {cs : List Int} (hk : 2097152 ≤ k) (hl : cs.length ≤ 1048576) (i j s : Int) : spec_WaitForBoth.f k cs i j s = some (bothR cs i j s) := by
  unfold spec_WaitForBoth.f bothR
  rw [spec_code_f hk hl (by simp), Option.bind_some]
  show (if wcode cs (slotB cs s) [i, j] = 0 then _ else some (0, wcode cs (slotB cs s) [i, j])) = _
  by_cases h : wcode cs (slotB cs s) [i, j] = 0
  · obtain ⟨n, rfl, hn⟩ := from_slot h
    rw [if_pos h, if_pos h, spec_wait_f hk hl i hn, Option.bind_some, spec_wait_f hk hl j hn, Option.bind_some, Int.toNat_natCast]
  · rw [if_neg h, if_neg h]

end Go.Proofs.Ytmgdobiloapelaa.Vf
