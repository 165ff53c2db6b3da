/- Means and counts of waits: program and reference give the same. -/
import Derived.Test.YtmgdobiloapelaaQWtA
set_option linter.unusedVariables false
set_option linter.unusedSimpArgs false
namespace Go.Proofs.Ytmgdobiloapelaa.Vf
open Go Go.V Go.RowKit

def sumL (cs : List Int) (i j : Int) : Nat → Nat → Int
  | 0, _ => 0
  | d + 1, s => maxV (wt cs i s) (wt cs j s) + sumL cs i j d (s + 1)

theorem maxV_bnd {a b m : Int} (h1 : 0 ≤ a ∧ a < m) (h2 : 0 ≤ b ∧ b < m) : 0 ≤ maxV a b ∧ maxV a b < m := by unfold maxV; split <;> omega
theorem maxV_self (a : Int) : maxV a a = a := by unfold maxV; split <;> rfl

theorem sumL_bnd {cs : List Int} {i j : Int} (hi : i ∈ cs) (hj : j ∈ cs) (hl : cs.length ≤ 120) : ∀ (d s : Nat), s + d ≤ cs.length → 0 ≤ sumL cs i j d s ∧ sumL cs i j d s ≤ d * 120
  | 0, s, h => by simp [sumL]
  | d + 1, s, h => by
    have h1 := maxV_bnd (wt_bnd (s := s) hi (by omega)) (wt_bnd (s := s) hj (by omega))
    have h2 := sumL_bnd hi hj hl d (s + 1) (by omega)
    simp only [sumL]
    push_cast
    omega

theorem impl_sum_f {k : Nat} {cs : List Int} (hk : 2097152 ≤ k) {i : Int} (hi : i ∈ cs) (hl : cs.length ≤ 120) : impl_sumOfWaits.f k cs i = some (sumL cs i i cs.length 0) := by
  have key : ∀ (d s n : Nat) (a : Int), cs.length - s = d → s ≤ cs.length → d < n → 0 ≤ a → a ≤ s * 120 → impl_sumOfWaits.l0 k n cs i a cs.length s = some (a + sumL cs i i d s) := by
    intro d
    induction d with
    | zero =>
      intro s n a hd hs hn h0 h1
      cases n with
      | zero => omega
      | succ n =>
        simp only [impl_sumOfWaits.l0, impl_sumOfWaits.s0]
        rw [if_neg (by omega)]; simp [sumL]
    | succ d ih =>
      intro s n a hd hs hn h0 h1
      cases n with
      | zero => omega
      | succ n =>
        have b := wt_bnd (s := s) hi (by omega)
        simp only [impl_sumOfWaits.l0, impl_sumOfWaits.s0]
        rw [w64n (by omega), if_pos (by omega), impl_wait_f hk (by omega) hi (by omega), Option.bind_some, w64 (by omega) (by omega), ih (s + 1) n _ (by omega) (by omega) (by omega) (by omega) (by push_cast; omega)]
        simp only [sumL, maxV_self]
        congr 1; omega
  unfold impl_sumOfWaits.f impl_sumOfWaits.g
  rw [length_f, Option.bind_some]
  have := key cs.length 0 k 0 (by omega) (by omega) (by omega) (by omega) (by omega)
  rw [Int.zero_add] at this
  exact this

theorem spec_sum_f {k : Nat} {cs : List Int} (hk : 2097152 ≤ k) {i j : Int} (hi : i ∈ cs) (hj : j ∈ cs) (hl : cs.length ≤ 120) : spec_l10Sum.f k cs i j = some (sumL cs i j cs.length 0) := by
  have key : ∀ (d s n : Nat) (a : Int), cs.length - s = d → s ≤ cs.length → d < n → 0 ≤ a → a ≤ s * 120 → spec_l10Sum.l0 k n cs i j a s = some (a + sumL cs i j d s) := by
    intro d
    induction d with
    | zero =>
      intro s n a hd hs hn h0 h1
      cases n with
      | zero => omega
      | succ n =>
        simp only [spec_l10Sum.l0, spec_l10Sum.s0]
        rw [if_neg (by omega)]; simp [sumL]
    | succ d ih =>
      intro s n a hd hs hn h0 h1
      cases n with
      | zero => omega
      | succ n =>
        have b := maxV_bnd (wt_bnd (s := s) hi (by omega)) (wt_bnd (s := s) hj (by omega))
        simp only [spec_l10Sum.l0, spec_l10Sum.s0]
        rw [w64n (by omega), if_pos (by omega), spec_wait_f hk (by omega) i (by omega), Option.bind_some, spec_wait_f hk (by omega) j (by omega), Option.bind_some, w64 (by omega) (by omega), ih (s + 1) n _ (by omega) (by omega) (by omega) (by omega) (by push_cast; omega)]
        simp only [sumL]
        congr 1; omega
  unfold spec_l10Sum.f spec_l10Sum.g
  have := key cs.length 0 k 0 (by omega) (by omega) (by omega) (by omega) (by omega)
  rw [Int.zero_add] at this
  exact this

theorem wcode_slot {cs ts : List Int} : wcode cs (decide ((0 : Int) ≤ 0 ∧ (0 : Int) < cs.length)) ts = wcode cs true ts := by
  unfold wcode
  by_cases h : turnsW 8 cs = true
  · have := (turnsW_len h)
    rw [decide_eq_true (by omega)]
  · rw [Bool.not_eq_true] at h
    rw [h, Bool.false_and, Bool.false_and]
where
  turnsW_len {cs : List Int} (h : turnsW 8 cs = true) : 1 ≤ cs.length := by
    unfold turnsW at h
    rw [Bool.and_eq_true] at h
    exact (of_decide_eq_true h.1).1

theorem sum_le {cs : List Int} {i j : Int} (hi : i ∈ cs) (hj : j ∈ cs) (hl : cs.length ≤ 120) : 0 ≤ sumL cs i j cs.length 0 ∧ sumL cs i j cs.length 0 ≤ 14400 := by
  have := sumL_bnd hi hj hl cs.length 0 (by omega)
  omega

/-- What is known of a mean. -/
structure MeanR (cs : List Int) (ts : List Int) (S : Int) (r : Int × Int × Int) : Prop where
  code : r.2.2 = wcode cs true ts
  good : wcode cs true ts = 0 → ∃ g : Int, 1 ≤ g ∧ g * r.1 = S ∧ g * r.2.1 = cs.length
  bad : wcode cs true ts ≠ 0 → r.1 = 0

/-! ### The worst slot -/

def wrs (cs : List Int) (i : Int) : Nat → Nat → Int → Int → Int × Int
  | 0, _, b, m => (b, m)
  | d + 1, s, b, m => if m < wt cs i s then wrs cs i d (s + 1) s (wt cs i s) else wrs cs i d (s + 1) b m

theorem wrs_spec {cs : List Int} {i : Int} : ∀ (d s : Nat) (b m : Int), m ≤ (wrs cs i d s b m).2 ∧ (∀ u, s ≤ u → u < s + d → wt cs i u ≤ (wrs cs i d s b m).2) ∧ ((wrs cs i d s b m).2 = m ∨ ∃ u, s ≤ u ∧ u < s + d ∧ (wrs cs i d s b m).2 = wt cs i u)
  | 0, s, b, m => ⟨Int.le_refl _, fun u h1 h2 => by omega, .inl rfl⟩
  | d + 1, s, b, m => by
    unfold wrs
    by_cases c : m < wt cs i s
    · rw [if_pos c]
      obtain ⟨h1, h2, h3⟩ := wrs_spec (cs := cs) (i := i) d (s + 1) s (wt cs i s)
      refine ⟨by omega, fun u h4 h5 => ?_, ?_⟩
      · by_cases e : u = s
        · rw [e]; exact h1
        · exact h2 u (by omega) (by omega)
      · rcases h3 with h3 | ⟨u, h4, h5, h6⟩
        · exact .inr ⟨s, by omega, by omega, h3⟩
        · exact .inr ⟨u, by omega, by omega, h6⟩
    · rw [if_neg c]
      obtain ⟨h1, h2, h3⟩ := wrs_spec (cs := cs) (i := i) d (s + 1) b m
      refine ⟨h1, fun u h4 h5 => ?_, ?_⟩
      · by_cases e : u = s
        · rw [e]; omega
        · exact h2 u (by omega) (by omega)
      · rcases h3 with h3 | ⟨u, h4, h5, h6⟩
        · exact .inl h3
        · exact .inr ⟨u, by omega, by omega, h6⟩

/-! ### Counts -/

def cntL (cs : List Int) (i m : Int) : Nat → Nat → Int
  | 0, _ => 0
  | d + 1, s => (if wt cs i s ≤ m then 1 else 0) + cntL cs i m d (s + 1)

theorem cntL_bnd (cs : List Int) (i m : Int) : ∀ (d s : Nat), 0 ≤ cntL cs i m d s ∧ cntL cs i m d s ≤ d ∧ (cntL cs i m d s = d ↔ ∀ u, s ≤ u → u < s + d → wt cs i u ≤ m)
  | 0, s => ⟨by simp [cntL], by simp [cntL], by simp [cntL]; intro u h1 h2; omega⟩
  | d + 1, s => by
    obtain ⟨h1, h2, h3⟩ := cntL_bnd cs i m d (s + 1)
    simp only [cntL]
    by_cases c : wt cs i s ≤ m
    · rw [if_pos c]
      refine ⟨by omega, by push_cast; omega, ?_⟩
      constructor
      · intro h u h4 h5
        by_cases e : u = s
        · rw [e]; exact c
        · exact h3.1 (by push_cast at h; omega) u (by omega) (by omega)
      · intro h
        have := h3.2 fun u h4 h5 => h u (by omega) (by omega)
        push_cast; omega
    · rw [if_neg c]
      refine ⟨by omega, by push_cast; omega, ?_⟩
      constructor
      · intro h; push_cast at h; omega
      · intro h; exact absurd (h s (by omega) (by omega)) c

/-! ### From one slot -/

def slotB (cs : List Int) (s : Int) : Bool := decide (0 ≤ s ∧ s < cs.length)

noncomputable def fromR (cs : List Int) (i s : Int) : Int × Int := if wcode cs (slotB cs s) [i] = 0 then (wt cs i s.toNat, 0) else (0, wcode cs (slotB cs s) [i])

theorem from_slot {cs ts : List Int} {s : Int} (h : wcode cs (slotB cs s) ts = 0) : ∃ n : Nat, s = n ∧ n < cs.length := by
  have := (code_zero h).2.1
  have := of_decide_eq_true this
  exact ⟨s.toNat, by omega, by omega⟩

noncomputable def bothR (cs : List Int) (i j s : Int) : Int × Int := if wcode cs (slotB cs s) [i, j] = 0 then (maxV (wt cs i s.toNat) (wt cs j s.toNat), 0) else (0, wcode cs (slotB cs s) [i, j])

end Go.Proofs.Ytmgdobiloapelaa.Vf
