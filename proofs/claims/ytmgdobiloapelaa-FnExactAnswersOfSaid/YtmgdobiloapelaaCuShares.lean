/- Shares: the reference's and the program's look at them; the turns out of them; means at equal distances. -/
import Derived.Test.YtmgdobiloapelaaCx0
import Derived.Test.YtmgdobiloapelaaCuTurns
set_option linter.unusedVariables false
set_option linter.unusedSimpArgs false
namespace Go.Proofs.Ytmgdobiloapelaa.Cb
open Go.RowKit Go.Proofs.YtmgdobiloapelaaW.PrintWords Go.Proofs.YtmgdobiloapelaaW.PrintLast Go.Proofs.Ytmgdobiloapelaa.C

theorem sum_le (l : List Int) (c : Int) (h : ∀ x ∈ l, x ≤ c) : l.sum ≤ c * l.length := by
  induction l with
  | nil => simp
  | cons x l ih =>
    have h1 := h x (by simp)
    have h2 := ih (fun y hy => h y (by simp [hy]))
    simp only [List.sum_cons, List.length_cons, Int.natCast_add, Int.mul_add]
    omega
theorem sum_ge (l : List Int) (c : Int) (h : ∀ x ∈ l, c ≤ x) : c * l.length ≤ l.sum := by
  induction l with
  | nil => simp
  | cons x l ih =>
    have h1 := h x (by simp)
    have h2 := ih (fun y hy => h y (by simp [hy]))
    simp only [List.sum_cons, List.length_cons, Int.natCast_add, Int.mul_add]
    omega
def sharesOk (l : List Int) : Bool := inB 1 8 l.length && l.all (inB 1 120) && decide (l.sum ≤ 120)

theorem sum_empty {l : List Int} (h : l.length = 0) : l.sum = 0 := by rw [List.eq_nil_of_length_eq_zero h]; rfl
/-! the turns out of shares -/
def pick (s h : List Int) : Nat → Nat → Int → Int
  | 0, _, b => b
  | d + 1, i, b => pick s h d (i + 1) (if rd h i = rd s i then b else if b < 0 then (i : Int) else if (2 * rd h i + 1) * rd s b < (2 * rd h b + 1) * rd s i then (i : Int) else b)
structure Had (s h : List Int) : Prop where
  len : h.length = s.length
  lo : ∀ i : Nat, i < s.length → 0 ≤ rd h i
  hi : ∀ i : Nat, i < s.length → rd h i ≤ rd s i
theorem pick_ok (s h : List Int) : ∀ (d i : Nat) (b : Int), s.length - i = d → (b = -1 ∨ (0 ≤ b ∧ b < s.length ∧ rd h b ≠ rd s b)) → (∃ j : Nat, i ≤ j ∧ j < s.length ∧ rd h j ≠ rd s j) ∨ 0 ≤ b →
    0 ≤ pick s h d i b ∧ pick s h d i b < s.length ∧ rd h (pick s h d i b) ≠ rd s (pick s h d i b) := by
  intro d
  induction d with
  | zero =>
    intro i b hd hb he
    simp only [pick]
    rcases he with ⟨j, h1, h2, _⟩ | he
    · omega
    · rcases hb with rfl | hb
      · omega
      · exact hb
  | succ d ih =>
    intro i b hd hb he
    simp only [pick]
    by_cases e : rd h i = rd s i
    · rw [if_pos e]
      refine ih (i + 1) b (by clear he; omega) hb ?_
      rcases he with ⟨j, h1, h2, h3⟩ | he
      · left
        refine ⟨j, ?_, h2, h3⟩
        rcases Nat.eq_or_lt_of_le h1 with rfl | h1
        · exact absurd e h3
        · exact h1
      · exact .inr he
    · rw [if_neg e]
      have hi : 0 ≤ (i : Int) ∧ (i : Int) < s.length ∧ rd h (i : Int) ≠ rd s (i : Int) := ⟨by omega, by clear he; omega, e⟩
      by_cases hb0 : b < 0
      · rw [if_pos hb0]
        exact ih (i + 1) i (by clear he; omega) (.inr hi) (.inr hi.1)
      · rw [if_neg hb0]
        split
        · exact ih (i + 1) i (by clear he; omega) (.inr hi) (.inr hi.1)
        · exact ih (i + 1) b (by clear he; omega) hb (.inr (by clear he; omega))
def deal (s : List Int) : Nat → List Int → List Int → List Int
  | 0, _, out => out
  | d + 1, h, out => deal s d (h.set (pick s h s.length 0 (-1)).toNat (rd h (pick s h s.length 0 (-1)) + 1)) (out ++ [pick s h s.length 0 (-1)])
theorem sum_set (l : List Int) (i : Nat) (v : Int) (h : i < l.length) : (l.set i v).sum = l.sum - rd l i + v := by
  induction l generalizing i with
  | nil => simp at h
  | cons x l ih =>
    cases i with
    | zero => simp [rd]; omega
    | succ i =>
      have := ih i (by simpa using h)
      rw [rd_nat] at this ⊢
      simp only [List.set_cons_succ, List.sum_cons, List.getD_cons_succ]
      omega
theorem rd_set (l : List Int) (i j : Nat) (v : Int) (h : i < l.length) : rd (l.set i v) j = if j = i then v else rd l j := by
  rw [rd_nat, rd_nat, List.getD_eq_getElem?_getD, List.getD_eq_getElem?_getD, List.getElem?_set]
  by_cases e : i = j
  · subst e
    simp [h]
  · rw [if_neg e, if_neg (fun h => e h.symm)]
theorem sum_eq_of (a b : List Int) (hl : a.length = b.length) (h : ∀ i : Nat, i < b.length → rd a i = rd b i) : a = b := by
  apply List.ext_getElem hl
  intro i h1 h2
  have := h i h2
  rwa [rd_lt h1, rd_lt h2] at this
theorem Had.some {s h : List Int} (H : Had s h) (hne : h.sum ≠ s.sum) : ∃ j : Nat, 0 ≤ j ∧ j < s.length ∧ rd h j ≠ rd s j := by
  by_cases h' : ∀ i : Nat, i < s.length → rd h i = rd s i
  · exact absurd (by rw [sum_eq_of h s H.len h']) hne
  · rw [Classical.not_forall] at h'
    obtain ⟨j, hj⟩ := h'
    rw [Classical.not_imp] at hj
    exact ⟨j, by omega, hj.1, hj.2⟩
theorem toNat_rd (l : List Int) {b : Int} (h : 0 ≤ b) : rd l b = rd l (b.toNat : Int) := by rw [Int.toNat_of_nonneg h]
theorem Had.next {s h : List Int} (H : Had s h) {b : Int} (h0 : 0 ≤ b) (h1 : b < s.length) (hne : rd h b ≠ rd s b) : Had s (h.set b.toNat (rd h b + 1)) := by
  have hl := H.len
  have hb1 := H.hi b.toNat (by omega)
  have hb0 := H.lo b.toNat (by omega)
  rw [toNat_rd h h0, toNat_rd s h0] at hne
  rw [toNat_rd h h0]
  refine ⟨by simpa using hl, ?_, ?_⟩
  · intro i hi
    rw [rd_set _ _ _ _ (by omega)]
    split
    · omega
    · exact H.lo i hi
  · intro i hi
    rw [rd_set _ _ _ _ (by omega)]
    split
    · rename_i e; subst e; omega
    · exact H.hi i hi
theorem mul_small {a b : Int} (ha : 0 ≤ a) (ha2 : a ≤ 1000) (hb : 0 ≤ b) (hb2 : b ≤ 1000) : 0 ≤ a * b ∧ a * b ≤ 1000000 := by
  refine ⟨Int.mul_nonneg ha hb, ?_⟩
  calc a * b ≤ 1000 * 1000 := Int.mul_le_mul ha2 hb2 hb (by omega)
    _ = 1000000 := by decide
theorem test_eq {s h : List Int} (H : Had s h) (hs : ∀ x ∈ s, 1 ≤ x ∧ x ≤ 120) {i b : Int} (hi0 : 0 ≤ i) (hi : i < s.length) (hb0 : 0 ≤ b) (hb : b < s.length) :
    wrap64 ((wrap64 ((wrap64 (2 * (rd h i))) + 1)) * (rd s b)) = (2 * rd h i + 1) * rd s b := by
  have h1 := H.lo i.toNat (by omega)
  have h2 := H.hi i.toNat (by omega)
  have h3 := hs _ (rd_mem (l := s) (i := i.toNat) (by omega))
  have h4 := hs _ (rd_mem (l := s) (i := b.toNat) (by omega))
  rw [← toNat_rd _ hi0] at h1 h2 h3
  rw [← toNat_rd _ hi0] at h2
  rw [← toNat_rd _ hb0] at h4
  rw [w64 (x := 2 * rd h i) (by omega) (by omega), w64 (x := 2 * rd h i + 1) (by omega) (by omega)]
  have := mul_small (a := 2 * rd h i + 1) (b := rd s b) (by omega) (by omega) (by omega) (by omega)
  exact w64 (by omega) (by omega)

theorem sum_replicate0 (n : Nat) : (List.replicate n (0 : Int)).sum = 0 := by
  induction n with
  | zero => rfl
  | succ n ih => rw [List.replicate_succ, List.sum_cons, ih]; rfl
theorem rd_replicate0 (n i : Nat) : rd (List.replicate n (0 : Int)) i = 0 := by
  rw [rd_nat, List.getD_eq_getElem?_getD, List.getElem?_replicate]
  split <;> rfl
theorem Had.zero {s : List Int} (hs : ∀ x ∈ s, 1 ≤ x ∧ x ≤ 120) : Had s (List.replicate s.length 0) := by
  refine ⟨by simp, fun i hi => by rw [rd_replicate0]; omega, fun i hi => ?_⟩
  rw [rd_replicate0]
  have := hs _ (rd_mem hi)
  omega
def dealt (s : List Int) : List Int × Int := if sharesOk s = true then (deal s s.sum.toNat (List.replicate s.length 0) [], 0) else ([], 2)
theorem sharesOk_iff (s : List Int) : sharesOk s = true ↔ (1 ≤ s.length ∧ s.length ≤ 8) ∧ (∀ x ∈ s, 1 ≤ x ∧ x ≤ 120) ∧ s.sum ≤ 120 := by
  unfold sharesOk
  simp only [Bool.and_eq_true, inB_iff, all_iff, decide_eq_true_eq]
  constructor
  · rintro ⟨⟨h1, h2⟩, h3⟩; exact ⟨by omega, h2, h3⟩
  · rintro ⟨h1, h2, h3⟩; exact ⟨⟨by omega, h2⟩, h3⟩
theorem sharesOk_pos {s : List Int} (h : sharesOk s = true) : 1 ≤ s.sum := by
  obtain ⟨h1, h2, h3⟩ := (sharesOk_iff s).mp h
  have := sum_ge s 1 (fun x hx => (h2 x hx).1)
  omega
theorem deal_length (s : List Int) : ∀ (d : Nat) (h out : List Int), (deal s d h out).length = out.length + d := by
  intro d
  induction d with
  | zero => intro h out; rfl
  | succ d ih => intro h out; rw [deal, ih]; simp; omega
theorem dealt_length (s : List Int) : (dealt s).1.length ≤ 120 := by
  unfold dealt
  split
  · rename_i h
    obtain ⟨h1, h2, h3⟩ := (sharesOk_iff s).mp h
    have hp := sharesOk_pos h
    show (deal s s.sum.toNat _ []).length ≤ 120
    rw [deal_length]
    simp
    omega
  · simp
end Go.Proofs.Ytmgdobiloapelaa.Cb
