/- Shares by weights. -/
import Derived.Test.YtmgdobiloapelaaQShA
set_option linter.unusedVariables false
set_option linter.unusedSimpArgs false
namespace Go.Proofs.Ytmgdobiloapelaa.Vf
open Go Go.V Go.RowKit

def pickW (w o : List Int) : Nat → Nat → Int → Int
  | 0, _, b => b
  | d + 1, i, b => pickW w o d (i + 1) (if rd w b * rd o i * (rd o i + 1) < rd w i * rd o b * (rd o b + 1) then (i : Int) else b)
structure Outs (w o : List Int) (t : Nat) : Prop where
  len : o.length = w.length
  lo : ∀ i : Nat, i < w.length → 1 ≤ rd o i
  hi : ∀ i : Nat, i < w.length → rd o i ≤ 1 + t
theorem pickW_ok (w o : List Int) : ∀ (d i : Nat) (b : Int), w.length - i = d → 0 ≤ b → b < w.length → 0 ≤ pickW w o d i b ∧ pickW w o d i b < w.length := by
  intro d
  induction d with
  | zero => intro i b hd h0 h1; exact ⟨h0, h1⟩
  | succ d ih =>
    intro i b hd h0 h1
    simp only [pickW]
    split
    · exact ih (i + 1) i (by omega) (by omega) (by omega)
    · exact ih (i + 1) b (by omega) h0 h1
def dealW (w : List Int) : Nat → List Int → List Int
  | 0, o => o
  | d + 1, o => dealW w d (o.set (pickW w o w.length 0 0).toNat (rd o (pickW w o w.length 0 0) + 1))
theorem Outs.next {w o : List Int} {t : Nat} (H : Outs w o t) {b : Int} (h0 : 0 ≤ b) (h1 : b < w.length) : Outs w (o.set b.toNat (rd o b + 1)) (t + 1) := by
  have hl := H.len
  have hb1 := H.hi b.toNat (by omega)
  have hb0 := H.lo b.toNat (by omega)
  rw [toNat_rd o h0]
  refine ⟨by simpa using hl, ?_, ?_⟩
  · intro i hi
    rw [rd_setS _ _ _ _ (by omega)]
    split
    · omega
    · exact H.lo i hi
  · intro i hi
    rw [rd_setS _ _ _ _ (by omega)]
    split
    · omega
    · have := H.hi i hi
      omega
theorem mul3 {a b c : Int} (ha : 0 ≤ a) (ha2 : a ≤ 100) (hb : 0 ≤ b) (hb2 : b ≤ 200) (hc : 0 ≤ c) (hc2 : c ≤ 200) : wrap64 (wrap64 (a * b) * c) = a * b * c := by
  have h1 : 0 ≤ a * b := Int.mul_nonneg ha hb
  have h2 : a * b ≤ 100 * 200 := Int.mul_le_mul ha2 hb2 hb (by omega)
  have h3 : 0 ≤ a * b * c := Int.mul_nonneg h1 hc
  have h4 : a * b * c ≤ 20000 * 200 := Int.mul_le_mul (by omega) hc2 hc (by omega)
  rw [w64 (x := a * b) (by omega) (by omega)]
  exact w64 (by omega) (by omega)
theorem rd_bound {w o : List Int} {t : Nat} (H : Outs w o t) {b : Int} (hb0 : 0 ≤ b) (hb : b < w.length) : 1 ≤ rd o b ∧ rd o b ≤ 1 + t := by
  have h1 := H.lo b.toNat (by omega)
  have h2 := H.hi b.toNat (by omega)
  rw [← toNat_rd _ hb0] at h1 h2
  exact ⟨h1, h2⟩
theorem testW {w o : List Int} {t : Nat} (H : Outs w o t) (ht : t ≤ 120) (hw : ∀ x ∈ w, 0 ≤ x ∧ x ≤ 100) {i b : Int} (hi0 : 0 ≤ i) (hi : i < w.length) (hb0 : 0 ≤ b) (hb : b < w.length) :
    wrap64 ((wrap64 ((rd w i) * (rd o b))) * (wrap64 ((rd o b) + 1))) = rd w i * rd o b * (rd o b + 1) := by
  have h1 := rd_bound H hb0 hb
  have h3 := hw _ (rd_mem (l := w) (i := i.toNat) (by omega))
  rw [← toNat_rd _ hi0] at h3
  rw [w64 (x := rd o b + 1) (by omega) (by omega)]
  exact mul3 (by omega) (by omega) (by omega) (by omega) (by omega) (by omega)

theorem specS_in {k : Nat} {w o : List Int} {x : Int} {t : Nat} {r1 : List Int → List Int → Int → Option (List Int × Int)} (H : Outs w o t) (ht : t ≤ 120) (hw : ∀ x ∈ w, 0 ≤ x ∧ x ≤ 100) (hl : w.length ≤ 8) :
    ∀ (d i m : Nat) (b : Int), w.length - i = d → i ≤ w.length → d < m → 0 ≤ b → b < w.length → pickW w o d i b = pickW w o w.length 0 0 →
    spec_SharesByWeights.l2 k r1 m w o x b i = r1 w (o.set (pickW w o w.length 0 0).toNat (rd o (pickW w o w.length 0 0) + 1)) (wrap64 (x - 1)) := by
  have hlen := H.len
  intro d
  induction d with
  | zero =>
    intro i m b hd hi hm hb0 hb hp
    cases m with
    | zero => omega
    | succ m =>
      simp only [pickW] at hp
      have h1 := rd_bound H hb0 hb
      simp only [spec_SharesByWeights.l2, spec_SharesByWeights.s2]
      rw [if_neg (by omega), if_pos hb0, if_pos (by omega), if_pos hb0, if_pos (by omega), w64 (x := rd o b + 1) (by omega) (by omega), hp]
  | succ d ih =>
    intro i m b hd hi hm hb0 hb hp
    cases m with
    | zero => omega
    | succ m =>
      simp only [spec_SharesByWeights.l2, spec_SharesByWeights.s2]
      rw [if_pos (by omega), if_pos (by omega), if_pos (by omega), if_pos hb0, if_pos (by omega), if_pos hb0, if_pos (by omega), if_pos hb0, if_pos hb, if_pos (by omega), if_pos (by omega), if_pos (by omega), if_pos (by omega)]
      rw [testW H ht hw (i := (i : Int)) (b := b) (by omega) (by omega) hb0 hb, testW H ht hw (i := b) (b := (i : Int)) hb0 hb (by omega) (by omega), w64n (by omega)]
      simp only [pickW] at hp
      by_cases e : rd w b * rd o i * (rd o i + 1) < rd w i * rd o b * (rd o b + 1)
      · rw [if_pos e]
        rw [if_pos e] at hp
        exact ih (i + 1) m i (by omega) (by omega) (by omega) (by omega) (by omega) hp
      · rw [if_neg e]
        rw [if_neg e] at hp
        exact ih (i + 1) m b (by omega) (by omega) (by omega) hb0 hb hp

theorem pickW_one (w o : List Int) (h0 : 0 < w.length) : pickW w o (w.length - 1) 1 0 = pickW w o w.length 0 0 := by
  obtain ⟨f, hf⟩ : ∃ f, w.length = f + 1 := ⟨w.length - 1, by omega⟩
  rw [hf]
  show pickW w o f 1 0 = pickW w o f 1 (if rd w 0 * rd o ((0 : Nat) : Int) * (rd o ((0 : Nat) : Int) + 1) < rd w ((0 : Nat) : Int) * rd o 0 * (rd o 0 + 1) then ((0 : Nat) : Int) else 0)
  split <;> rfl

theorem specS_out {k : Nat} {w : List Int} (hk : 2097152 ≤ k) (hw : ∀ x ∈ w, 0 ≤ x ∧ x ≤ 100) (h0 : 0 < w.length) (hl : w.length ≤ 8) : ∀ (d t m : Nat) (o : List Int), Outs w o t → t + d ≤ 120 → d < m →
    spec_SharesByWeights.l1 k m w o d = some (dealW w d o, 0) := by
  intro d
  induction d with
  | zero =>
    intro t m o H hd hm
    cases m with
    | zero => omega
    | succ m =>
      simp only [spec_SharesByWeights.l1, spec_SharesByWeights.s1]
      rw [if_neg (by omega)]; rfl
  | succ d ih =>
    intro t m o H hd hm
    cases m with
    | zero => omega
    | succ m =>
      simp only [spec_SharesByWeights.l1, spec_SharesByWeights.s1]
      have hp := pickW_ok w o w.length 0 0 (by omega) (by omega) (by omega)
      have e := specS_in (k := k) (x := ((d + 1 : Nat) : Int)) (r1 := spec_SharesByWeights.l1 k m) H (by omega) hw hl (w.length - 1) 1 k 0 (by omega) (by omega) (by omega) (by omega) (by omega) (pickW_one w o h0)
      rw [Int.natCast_one] at e
      rw [if_pos (by omega), e, w64 (by omega) (by omega), show ((d + 1 : Nat) : Int) - 1 = (d : Int) by omega]
      exact ih (t + 1) m _ (H.next hp.1 hp.2) (by omega) (by omega)

theorem implS_in {k : Nat} {w o : List Int} {n : Int} {x t : Nat} {r0 : List Int → List Int → Int → Int → Option (List Int × Int)} (H : Outs w o t) (ht : t ≤ 120) (hx : x ≤ 1000) (hw : ∀ x ∈ w, 0 ≤ x ∧ x ≤ 100) (hl : w.length ≤ 8) :
    ∀ (d i m : Nat) (b : Int), w.length - i = d → i ≤ w.length → d < m → 0 ≤ b → b < w.length → pickW w o d i b = pickW w o w.length 0 0 →
    impl_SharesByWeights.l1 k r0 m w o b n x o.length i = r0 w (o.set (pickW w o w.length 0 0).toNat (rd o (pickW w o w.length 0 0) + 1)) n ((x + 1 : Nat) : Int) := by
  have hlen := H.len
  intro d
  induction d with
  | zero =>
    intro i m b hd hi hm hb0 hb hp
    cases m with
    | zero => omega
    | succ m =>
      simp only [pickW] at hp
      have h1 := rd_bound H hb0 hb
      simp only [impl_SharesByWeights.l1, impl_SharesByWeights.s1]
      rw [if_neg (by omega), if_pos hb0, if_pos (by omega), if_pos hb0, if_pos (by omega), w64 (x := rd o b + 1) (by omega) (by omega), hp, w64n (by omega)]
  | succ d ih =>
    intro i m b hd hi hm hb0 hb hp
    cases m with
    | zero => omega
    | succ m =>
      simp only [impl_SharesByWeights.l1, impl_SharesByWeights.s1]
      rw [if_pos (by omega), if_pos (by omega), if_pos (by omega), if_pos (by omega), if_pos (by omega), if_pos hb0, if_pos (by omega), if_pos hb0, if_pos (by omega), if_pos hb0, if_pos hb]
      rw [testW H ht hw (i := (i : Int)) (b := b) (by omega) (by omega) hb0 hb, testW H ht hw (i := b) (b := (i : Int)) hb0 hb (by omega) (by omega), w64n (i := i) (by omega)]
      simp only [pickW] at hp
      by_cases e : rd w b * rd o i * (rd o i + 1) < rd w i * rd o b * (rd o b + 1)
      · rw [if_pos e]
        rw [if_pos e] at hp
        exact ih (i + 1) m i (by omega) (by omega) (by omega) (by omega) (by omega) hp
      · rw [if_neg e]
        rw [if_neg e] at hp
        exact ih (i + 1) m b (by omega) (by omega) (by omega) hb0 hb hp

theorem implS_out {k : Nat} {w : List Int} (hk : 2097152 ≤ k) (hw : ∀ x ∈ w, 0 ≤ x ∧ x ≤ 100) (h0 : 0 < w.length) (hl : w.length ≤ 8) {n : Nat} (hn : n ≤ 120) : ∀ (d t m : Nat) (o : List Int), Outs w o t → t + d = n → d < m →
    impl_SharesByWeights.l0 k m w o n t = some (dealW w d o, 0) := by
  intro d
  induction d with
  | zero =>
    intro t m o H hd hm
    cases m with
    | zero => omega
    | succ m =>
      simp only [impl_SharesByWeights.l0, impl_SharesByWeights.s0]
      rw [if_neg (by omega)]; rfl
  | succ d ih =>
    intro t m o H hd hm
    cases m with
    | zero => omega
    | succ m =>
      simp only [impl_SharesByWeights.l0, impl_SharesByWeights.s0]
      have hp := pickW_ok w o w.length 0 0 (by omega) (by omega) (by omega)
      have e := implS_in (k := k) (n := (n : Int)) (x := t) (r0 := impl_SharesByWeights.l0 k m) H (by omega) (by omega) hw hl w.length 0 k 0 (by omega) (by omega) (by omega) (by omega) (by omega) rfl
      rw [Int.natCast_zero] at e
      rw [if_pos (by omega), e]
      exact ih (t + 1) m _ (H.next hp.1 hp.2) (by omega) (by omega)

theorem Outs.ones (w : List Int) : Outs w (List.replicate w.length 1) 0 := by
  refine ⟨by simp, fun i hi => ?_, fun i hi => ?_⟩
  · rw [rd_rep _ _ _ hi]; omega
  · rw [rd_rep _ _ _ hi]; omega

theorem specS_ones {k : Nat} {w : List Int} {n : Int} (hl : w.length ≤ 8) (hn : w.length ≤ n) (hn2 : n ≤ 120) : ∀ (d i m : Nat), w.length - i = d → i ≤ w.length → d < m →
    spec_SharesByWeights.l0 k m w n (List.replicate i 1) i = spec_SharesByWeights.l1 k k w (List.replicate w.length 1) (n - w.length) := by
  intro d
  induction d with
  | zero =>
    intro i m hd hi hm
    cases m with
    | zero => omega
    | succ m =>
      obtain rfl : i = w.length := by omega
      simp only [spec_SharesByWeights.l0, spec_SharesByWeights.s0]
      rw [if_neg (by omega), w64 (by omega) (by omega)]
  | succ d ih =>
    intro i m hd hi hm
    cases m with
    | zero => omega
    | succ m =>
      simp only [spec_SharesByWeights.l0, spec_SharesByWeights.s0]
      rw [if_pos (by omega), if_pos (by simp; omega), w64n (by omega), ← List.replicate_succ']
      exact ih (i + 1) m (by omega) (by omega) (by omega)

def sharesW (w : List Int) (n : Int) : List Int × Int := if weightsB w = true then (if 1 ≤ n ∧ n ≤ 120 then (if n < w.length then ([], 3) else (dealW w (n - w.length).toNat (List.replicate w.length 1), 0)) else ([], 2)) else ([], 2)

theorem weights_in {w : List Int} (h : weightsB w = true) : (1 ≤ w.length ∧ w.length ≤ 8) ∧ (∀ x ∈ w, 0 ≤ x ∧ x ≤ 100) ∧ 0 < tot w := by
  unfold weightsB at h
  simp only [Bool.and_eq_true, decide_eq_true_eq, List.all_eq_true] at h
  exact ⟨h.1, fun x hx => of_decide_eq_true (h.2.1 x hx), h.2.2⟩

theorem spec_Shares_f {k : Nat} {w : List Int} (hk : 2097152 ≤ k) (hl : w.length ≤ 1048576) (n : Int) : spec_SharesByWeights.f k w n = some (sharesW w n) := by
  unfold spec_SharesByWeights.f spec_SharesByWeights.g sharesW
  rw [spec_weights_f hk hl, Option.bind_some]
  by_cases c : weightsB w = true
  · obtain ⟨⟨h1, h2⟩, h3, h4⟩ := weights_in c
    rw [if_pos c, if_pos c, l01In_f, Option.bind_some]
    by_cases h : 1 ≤ n ∧ n ≤ 120
    · rw [if_pos (decide_eq_true h), if_pos h]
      by_cases e : n < w.length
      · rw [if_pos e, if_pos e]
      · rw [if_neg e, if_neg e]
        have e0 := specS_ones (k := k) (w := w) (n := n) h2 (by omega) (by omega) w.length 0 k (by omega) (by omega) (by omega)
        rw [List.replicate_zero, Int.natCast_zero] at e0
        rw [e0]
        obtain ⟨d, hd⟩ := Int.eq_ofNat_of_zero_le (show 0 ≤ n - w.length by omega)
        rw [hd, Int.toNat_natCast]
        exact specS_out hk h3 (by omega) (by omega) d 0 k _ (Outs.ones w) (by omega) (by omega)
    · rw [if_neg (by simpa using h), if_neg h]
  · rw [if_neg c, if_neg c]

theorem impl_Shares_f {k : Nat} {w : List Int} (hk : 2097152 ≤ k) (hl : w.length ≤ 1048576) (n : Int) : impl_SharesByWeights.f k w n = some (sharesW w n) := by
  unfold impl_SharesByWeights.f impl_SharesByWeights.g sharesW
  rw [impl_weights_f hk hl, Option.bind_some]
  by_cases c : weightsB w = true
  · obtain ⟨⟨h1, h2⟩, h3, h4⟩ := weights_in c
    rw [if_pos c, if_pos c, within_f, Option.bind_some]
    by_cases h : 1 ≤ n ∧ n ≤ 120
    · rw [if_neg (by simp; exact h), if_pos h, length_f, Option.bind_some]
      by_cases e : n < w.length
      · rw [if_pos (decide_eq_true e), if_pos e]
      · rw [if_neg (by simpa using e), if_neg e]
        have hrep : slices_Repeat_int64_int64.f [1] (w.length : Int) = some (List.replicate w.length 1) := by
          unfold slices_Repeat_int64_int64.f
          exact if_pos (by omega)
        rw [hrep, Option.bind_some, Option.bind_some]
        obtain ⟨d, hd⟩ := Int.eq_ofNat_of_zero_le (show 0 ≤ n - w.length by omega)
        rw [w64 (by omega) (by omega), hd, Int.toNat_natCast]
        have := implS_out hk h3 (by omega) h2 (n := d) (by omega) d 0 k _ (Outs.ones w) (by omega) (by omega)
        rw [Int.natCast_zero] at this
        exact this
    · rw [if_pos (by simp; omega), if_neg h]
  · rw [if_neg c, if_neg c]

theorem dealW_ok {w : List Int} (h0 : 0 < w.length) : ∀ (d t : Nat) (o : List Int), Outs w o t → (dealW w d o).length = w.length ∧ (dealW w d o).sum = o.sum + d ∧ ∀ i : Nat, i < w.length → 1 ≤ rd (dealW w d o) i := by
  intro d
  induction d with
  | zero => intro t o H; exact ⟨H.len, by simp [dealW], H.lo⟩
  | succ d ih =>
    intro t o H
    have hp := pickW_ok w o w.length 0 0 (by omega) (by omega) (by omega)
    have hl := H.len
    obtain ⟨a, b, c⟩ := ih (t + 1) _ (H.next hp.1 hp.2)
    have hs := sum_setS o (pickW w o w.length 0 0).toNat (rd o (pickW w o w.length 0 0) + 1) (by omega)
    rw [← toNat_rd _ hp.1] at hs
    simp only [dealW]
    exact ⟨a, by rw [b, hs]; push_cast; omega, c⟩

theorem sum_rep1 (n : Nat) : (List.replicate n (1 : Int)).sum = n := by
  induction n with
  | zero => rfl
  | succ n ih => rw [List.replicate_succ, List.sum_cons, ih]; push_cast; omega

theorem sharesW_ok {w : List Int} {n : Int} (h : (sharesW w n).2 = 0) : (sharesW w n).1.length = w.length ∧ (sharesW w n).1.sum = n ∧ Sok (sharesW w n).1 := by
  unfold sharesW at h ⊢
  by_cases c : weightsB w = true
  · obtain ⟨⟨h1, h2⟩, h3, h4⟩ := weights_in c
    rw [if_pos c] at h ⊢
    by_cases hn : 1 ≤ n ∧ n ≤ 120
    · rw [if_pos hn] at h ⊢
      by_cases e : n < w.length
      · rw [if_pos e] at h; cases h
      · rw [if_neg e]
        obtain ⟨a, b, cc⟩ := dealW_ok (w := w) (by omega) (n - w.length).toNat 0 _ (Outs.ones w)
        rw [sum_rep1] at b
        have b' : (dealW w (n - w.length).toNat (List.replicate w.length 1)).sum = n := by omega
        have lo : ∀ x ∈ dealW w (n - w.length).toNat (List.replicate w.length 1), 1 ≤ x := fun x hx => by
          obtain ⟨p, hp, e⟩ := mem_iff.1 hx
          rw [← e]; exact cc p (by omega)
        refine ⟨a, b', by show 1 ≤ (dealW w _ _).length; omega, by show (dealW w _ _).length ≤ 8; omega, fun x hx => ⟨lo x hx, ?_⟩, by show (dealW w _ _).sum ≤ 120; omega⟩
        -- one share is at most the sum
        have : ∀ (l : List Int), (∀ y ∈ l, 1 ≤ y) → x ∈ l → x ≤ l.sum := by
          intro l
          induction l with
          | nil => intro _ h; cases h
          | cons y l ih =>
            intro hl hx
            have h1 := hl y (List.mem_cons_self ..)
            have h2 := sum_geS l 0 (fun z hz => by have := hl z (List.mem_cons_of_mem _ hz); omega)
            rw [List.sum_cons]
            rcases List.mem_cons.1 hx with rfl | hx
            · omega
            · have := ih (fun z hz => hl z (List.mem_cons_of_mem _ hz)) hx; omega
        have := this _ lo hx
        omega
    · rw [if_neg hn] at h; cases h
  · rw [if_neg c] at h; cases h

theorem sharesW_len (w : List Int) (n : Int) : (sharesW w n).1.length ≤ 8 := by
  by_cases h : (sharesW w n).2 = 0
  · exact (sharesW_ok h).2.2.l8
  · unfold sharesW at h ⊢
    split at h
    · split at h
      · split at h
        · simp [*]
        · exact absurd rfl h
      · simp [*]
    · simp [*]

end Go.Proofs.Ytmgdobiloapelaa.Vf
