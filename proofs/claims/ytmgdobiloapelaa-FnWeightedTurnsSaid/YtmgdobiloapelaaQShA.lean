/- Shares: what program and reference see in them, and the turns out of them. -/
import Derived.Test.YtmgdobiloapelaaQWtC
set_option linter.unusedVariables false
set_option linter.unusedSimpArgs false
namespace Go.Proofs.Ytmgdobiloapelaa.Vf
open Go Go.V Go.RowKit

/-! ### Sums -/

theorem sum_leS (l : List Int) (c : Int) (h : ∀ x ∈ l, x ≤ c) : l.sum ≤ c * l.length := by
  induction l with
  | nil => simp
  | cons x l ih =>
    have h1 := h x (by simp)
    have h2 := ih (fun y hy => h y (by simp [hy]))
    simp only [List.sum_cons, List.length_cons, Int.natCast_add, Int.mul_add]
    omega
theorem sum_geS (l : List Int) (c : Int) (h : ∀ x ∈ l, c ≤ x) : c * l.length ≤ l.sum := by
  induction l with
  | nil => simp
  | cons x l ih =>
    have h1 := h x (by simp)
    have h2 := ih (fun y hy => h y (by simp [hy]))
    simp only [List.sum_cons, List.length_cons, Int.natCast_add, Int.mul_add]
    omega
theorem sum_setS (l : List Int) (i : Nat) (v : Int) (h : i < l.length) : (l.set i v).sum = l.sum - rd l i + v := by
  induction l generalizing i with
  | nil => simp at h
  | cons x l ih =>
    cases i with
    | zero => simp [rd]; omega
    | succ i =>
      have := ih i (by simpa using h)
      rw [rd_nat] at this ⊢
      simp only [List.set_cons_succ, List.sum_cons, List.getD_cons_succ]
      omega
theorem rd_setS (l : List Int) (i j : Nat) (v : Int) (h : i < l.length) : rd (l.set i v) j = if j = i then v else rd l j := by
  rw [rd_nat, rd_nat, List.getD_eq_getElem?_getD, List.getD_eq_getElem?_getD, List.getElem?_set]
  by_cases e : i = j
  · subst e
    simp [h]
  · rw [if_neg e, if_neg (fun h => e h.symm)]
theorem sum_eq_of (a b : List Int) (hl : a.length = b.length) (h : ∀ i : Nat, i < b.length → rd a i = rd b i) : a = b := by
  apply List.ext_getElem hl
  intro i h1 h2
  have := h i h2
  rwa [rd_lt h1, rd_lt h2] at this
theorem toNat_rd (l : List Int) {b : Int} (h : 0 ≤ b) : rd l b = rd l (b.toNat : Int) := by rw [Int.toNat_of_nonneg h]
theorem sum_rep0 (n : Nat) : (List.replicate n (0 : Int)).sum = 0 := by
  induction n with
  | zero => rfl
  | succ n ih => rw [List.replicate_succ, List.sum_cons, ih]; rfl
theorem rd_rep (n i : Nat) (v : Int) (h : i < n) : rd (List.replicate n v) i = v := by
  rw [rd_nat, List.getD_eq_getElem?_getD, List.getElem?_replicate, if_pos h]; rfl
theorem tot_sum : ∀ l : List Int, tot l = l.sum
  | [] => rfl
  | x :: l => by simp only [tot, List.sum_cons, tot_sum l]

theorem total_s {k : Nat} {l : List Int} (hk : 2097152 ≤ k) (hl : l.length ≤ 1000) (hb : ∀ x ∈ l, -1000 ≤ x ∧ x ≤ 1000) : impl_total.f k l = some l.sum := by
  have key : ∀ (d i m : Nat) (a : Int), i + d = l.length → d < m → -1000 * i ≤ a → a ≤ 1000 * i → impl_total.l0 k m a l l.length i = some (a + (l.drop i).sum) := by
    intro d
    induction d with
    | zero =>
      intro i m a hd hm h0 h1
      cases m with
      | zero => omega
      | succ m =>
        simp only [impl_total.l0, impl_total.s0]
        rw [if_neg (by omega), List.drop_eq_nil_of_le (by omega)]; simp
    | succ d ih =>
      intro i m a hd hm h0 h1
      cases m with
      | zero => omega
      | succ m =>
        have b := hb _ (rd_mem (l := l) (i := i) (by omega))
        simp only [impl_total.l0, impl_total.s0]
        rw [if_pos (by omega), if_pos (by omega), if_pos (by omega), w64n (by omega), w64 (by omega) (by omega), ih (i + 1) m _ (by omega) (by omega) (by omega) (by omega), drop_cons (i := i) (by omega), List.sum_cons, Int.add_assoc]
  unfold impl_total.f impl_total.g
  have := key l.length 0 k 0 (by omega) (by omega) (by omega) (by omega)
  rw [List.drop_zero, Int.zero_add, Int.natCast_zero] at this
  exact this

/-! ### Shares -/

def s120 (x : Int) : Bool := decide (1 ≤ x ∧ x ≤ 120)
def sharesOk (l : List Int) : Bool := decide (1 ≤ l.length ∧ l.length ≤ 8) && (l.all s120 && decide (l.sum ≤ 120))

structure Sok (s : List Int) : Prop where
  l1 : 1 ≤ s.length
  l8 : s.length ≤ 8
  el : ∀ x ∈ s, 1 ≤ x ∧ x ≤ 120
  sm : s.sum ≤ 120
theorem sharesOk_iff {s : List Int} : sharesOk s = true ↔ Sok s := by
  unfold sharesOk
  rw [Bool.and_eq_true, Bool.and_eq_true, decide_eq_true_eq, decide_eq_true_eq, List.all_eq_true]
  constructor
  · rintro ⟨⟨a, b⟩, c, d⟩; exact ⟨a, b, fun x hx => of_decide_eq_true (c x hx), d⟩
  · intro h; exact ⟨⟨h.l1, h.l8⟩, fun x hx => decide_eq_true (h.el x hx), h.sm⟩
theorem Sok.pos {s : List Int} (h : Sok s) : 1 ≤ s.sum := by
  have := sum_geS s 1 (fun x hx => (h.el x hx).1)
  have := h.l1
  omega

theorem areShares_f {k : Nat} {l : List Int} (hk : 2097152 ≤ k) (hl : l.length ≤ 1048576) : impl_areSharesOf.f k l = some (sharesOk l) := by
  have al : impl_areAll_int64_impl_areSharesOf_1.f k l () = some (l.all s120) := by
    obtain ⟨j, h1, h2⟩ := idx_run (L := slices_IndexFunc_int64_int64_impl_areAll_int64_1_impl_areSharesOf_1.l0 k) (p := fun x => !s120 x) (l := l) (c := ())
      (fun n i hi => by
        simp only [slices_IndexFunc_int64_int64_impl_areAll_int64_1_impl_areSharesOf_1.l0, slices_IndexFunc_int64_int64_impl_areAll_int64_1_impl_areSharesOf_1.s0]
        rw [if_pos (by omega), if_pos (by omega), if_pos (by omega)]
        simp only [impl_areAll_int64_1_impl_areSharesOf_1.f, impl_areSharesOf_1.f, within_f, Option.bind_some, s120, w64n (show i ≤ 9223372036854775806 by omega)]
        by_cases c : 1 ≤ rd l i ∧ rd l i ≤ 120
        · simp [c]
        · simp [c]) (fun n => by
        simp only [slices_IndexFunc_int64_int64_impl_areAll_int64_1_impl_areSharesOf_1.l0, slices_IndexFunc_int64_int64_impl_areAll_int64_1_impl_areSharesOf_1.s0]
        rw [if_neg (by omega)]) l.length 0 k rfl (by omega) (by omega)
    unfold impl_areAll_int64_impl_areSharesOf_1.f slices_ContainsFunc_int64_int64_impl_areAll_int64_1_impl_areSharesOf_1.f slices_IndexFunc_int64_int64_impl_areAll_int64_1_impl_areSharesOf_1.f slices_IndexFunc_int64_int64_impl_areAll_int64_1_impl_areSharesOf_1.g
    rw [Int.natCast_zero] at h1
    rw [h1]
    simp only [Option.bind_some]
    rw [List.drop_zero] at h2
    rw [all_iff (q := s120) (fun x => rfl) h2]
  unfold impl_areSharesOf.f impl_isMany.f sharesOk
  rw [length_f, Option.bind_some, within_f, Option.bind_some, Option.bind_some]
  by_cases c : 1 ≤ l.length ∧ l.length ≤ 8
  · rw [if_pos (decide_eq_true (by omega)), al, Option.bind_some, decide_eq_true c, Bool.true_and]
    by_cases d : l.all s120 = true
    · rw [if_pos d, d, Bool.true_and, total_s hk (by omega) (fun x hx => by
        have : 1 ≤ x ∧ x ≤ 120 := of_decide_eq_true (List.all_eq_true.1 d x hx)
        omega), Option.bind_some]
    · rw [if_neg d, Bool.eq_false_iff.2 d, Bool.false_and]
  · rw [if_neg (by simp; omega), decide_eq_false c, Bool.false_and]

theorem l10Shares_f {k : Nat} {l : List Int} (hk : 2097152 ≤ k) (hl : l.length ≤ 1048576) : spec_l10Shares.f k l = some (if sharesOk l = true then l.sum else 0) := by
  have key : ∀ (d i m : Nat) (a : Int), i + d = l.length → d < m → 0 ≤ a → a ≤ 120 * i → (∀ j : Nat, j < i → s120 (rd l j) = true) → a + (l.drop i).sum = l.sum → spec_l10Shares.l0 k m l a i = some (if sharesOk l = true then l.sum else 0) := by
    intro d
    induction d with
    | zero =>
      intro i m a hd hm h0 h1 hp hs
      cases m with
      | zero => omega
      | succ m =>
        simp only [spec_l10Shares.l0, spec_l10Shares.s0]
        rw [List.drop_eq_nil_of_le (by omega)] at hs
        have hs : a = l.sum := by simpa using hs
        have al : l.all s120 = true := List.all_eq_true.2 fun x hx => by
          obtain ⟨p, hp', e⟩ := mem_iff.1 hx
          rw [← e]; exact hp p (by omega)
        unfold sharesOk
        rw [if_neg (by omega), al, Bool.true_and]
        by_cases c8 : 8 < (l.length : Int)
        · rw [if_pos c8, decide_eq_false (by omega), Bool.false_and]; rfl
        · rw [if_neg c8]
          by_cases c120 : 120 < a
          · rw [if_pos c120, decide_eq_false (p := l.sum ≤ 120) (by omega), Bool.and_false]; rfl
          · rw [if_neg c120, decide_eq_true (p := l.sum ≤ 120) (by omega), Bool.and_true, hs]
            by_cases c1 : 1 ≤ l.length ∧ l.length ≤ 8
            · rw [if_pos (decide_eq_true c1)]
            · rw [if_neg (by simpa using c1)]
              have : l = [] := List.eq_nil_of_length_eq_zero (by omega)
              rw [this]; rfl
    | succ d ih =>
      intro i m a hd hm h0 h1 hp hs
      cases m with
      | zero => omega
      | succ m =>
        simp only [spec_l10Shares.l0, spec_l10Shares.s0]
        rw [if_pos (by omega), if_pos (by omega), if_pos (by omega), l01In_f, Option.bind_some]
        by_cases c : 1 ≤ rd l i ∧ rd l i ≤ 120
        · rw [if_pos (decide_eq_true c), if_pos (by omega), if_pos (by omega), w64 (by omega) (by omega), w64n (by omega)]
          refine ih (i + 1) m _ (by omega) (by omega) (by omega) (by omega) (fun j hj => ?_) ?_
          · by_cases e : j = i
            · rw [e]; exact decide_eq_true c
            · exact hp j (by omega)
          · rw [drop_cons (i := i) (by omega), List.sum_cons] at hs; omega
        · rw [if_neg (by simpa using c)]
          have : l.all s120 = false := by
            rw [Bool.eq_false_iff]
            intro h
            exact c (of_decide_eq_true (List.all_eq_true.1 h _ (rd_mem (l := l) (i := i) (by omega))))
          unfold sharesOk
          rw [this, Bool.false_and, Bool.and_false]; rfl
  unfold spec_l10Shares.f spec_l10Shares.g
  have := key l.length 0 k 0 (by omega) (by omega) (by omega) (by omega) (fun j hj => by omega) (by simp)
  rw [Int.natCast_zero] at this
  exact this

/-! ### Turns out of shares -/

def pickS (s h : List Int) : Nat → Nat → Int → Int
  | 0, _, b => b
  | d + 1, i, b => pickS s h d (i + 1) (if rd h i = rd s i then b else if b < 0 then (i : Int) else if (2 * rd h i + 1) * rd s b < (2 * rd h b + 1) * rd s i then (i : Int) else b)
structure Had (s h : List Int) : Prop where
  len : h.length = s.length
  lo : ∀ i : Nat, i < s.length → 0 ≤ rd h i
  hi : ∀ i : Nat, i < s.length → rd h i ≤ rd s i
theorem pickS_ok (s h : List Int) : ∀ (d i : Nat) (b : Int), s.length - i = d → (b = -1 ∨ (0 ≤ b ∧ b < s.length ∧ rd h b ≠ rd s b)) → (∃ j : Nat, i ≤ j ∧ j < s.length ∧ rd h j ≠ rd s j) ∨ 0 ≤ b →
    0 ≤ pickS s h d i b ∧ pickS s h d i b < s.length ∧ rd h (pickS s h d i b) ≠ rd s (pickS s h d i b) := by
  intro d
  induction d with
  | zero =>
    intro i b hd hb he
    simp only [pickS]
    rcases he with ⟨j, h1, h2, _⟩ | he
    · omega
    · rcases hb with rfl | hb
      · omega
      · exact hb
  | succ d ih =>
    intro i b hd hb he
    simp only [pickS]
    by_cases e : rd h i = rd s i
    · rw [if_pos e]
      refine ih (i + 1) b (by clear he; omega) hb ?_
      rcases he with ⟨j, h1, h2, h3⟩ | he
      · left
        refine ⟨j, ?_, h2, h3⟩
        rcases Nat.eq_or_lt_of_le h1 with rfl | h1
        · exact absurd e h3
        · exact h1
      · exact .inr he
    · rw [if_neg e]
      have hi : 0 ≤ (i : Int) ∧ (i : Int) < s.length ∧ rd h (i : Int) ≠ rd s (i : Int) := ⟨by omega, by clear he; omega, e⟩
      by_cases hb0 : b < 0
      · rw [if_pos hb0]
        exact ih (i + 1) i (by clear he; omega) (.inr hi) (.inr hi.1)
      · rw [if_neg hb0]
        split
        · exact ih (i + 1) i (by clear he; omega) (.inr hi) (.inr hi.1)
        · exact ih (i + 1) b (by clear he; omega) hb (.inr (by clear he; omega))
def dealS (s : List Int) : Nat → List Int → List Int → List Int
  | 0, _, out => out
  | d + 1, h, out => dealS s d (h.set (pickS s h s.length 0 (-1)).toNat (rd h (pickS s h s.length 0 (-1)) + 1)) (out ++ [pickS s h s.length 0 (-1)])
theorem Had.some {s h : List Int} (H : Had s h) (hne : h.sum ≠ s.sum) : ∃ j : Nat, 0 ≤ j ∧ j < s.length ∧ rd h j ≠ rd s j := by
  by_cases h' : ∀ i : Nat, i < s.length → rd h i = rd s i
  · exact absurd (by rw [sum_eq_of h s H.len h']) hne
  · rw [Classical.not_forall] at h'
    obtain ⟨j, hj⟩ := h'
    rw [Classical.not_imp] at hj
    exact ⟨j, by omega, hj.1, hj.2⟩
theorem Had.next {s h : List Int} (H : Had s h) {b : Int} (h0 : 0 ≤ b) (h1 : b < s.length) (hne : rd h b ≠ rd s b) : Had s (h.set b.toNat (rd h b + 1)) := by
  have hl := H.len
  have hb1 := H.hi b.toNat (by omega)
  have hb0 := H.lo b.toNat (by omega)
  rw [toNat_rd h h0, toNat_rd s h0] at hne
  rw [toNat_rd h h0]
  refine ⟨by simpa using hl, ?_, ?_⟩
  · intro i hi
    rw [rd_setS _ _ _ _ (by omega)]
    split
    · omega
    · exact H.lo i hi
  · intro i hi
    rw [rd_setS _ _ _ _ (by omega)]
    split
    · rename_i e; subst e; omega
    · exact H.hi i hi
theorem mul_small {a b : Int} (ha : 0 ≤ a) (ha2 : a ≤ 1000) (hb : 0 ≤ b) (hb2 : b ≤ 1000) : 0 ≤ a * b ∧ a * b ≤ 1000000 := by
  refine ⟨Int.mul_nonneg ha hb, ?_⟩
  calc a * b ≤ 1000 * 1000 := Int.mul_le_mul ha2 hb2 hb (by omega)
    _ = 1000000 := by decide
theorem test_eq {s h : List Int} (H : Had s h) (hs : ∀ x ∈ s, 1 ≤ x ∧ x ≤ 120) {i b : Int} (hi0 : 0 ≤ i) (hi : i < s.length) (hb0 : 0 ≤ b) (hb : b < s.length) :
    wrap64 ((wrap64 ((wrap64 (2 * (rd h i))) + 1)) * (rd s b)) = (2 * rd h i + 1) * rd s b := by
  have h1 := H.lo i.toNat (by omega)
  have h2 := H.hi i.toNat (by omega)
  have h3 := hs _ (rd_mem (l := s) (i := i.toNat) (by omega))
  have h4 := hs _ (rd_mem (l := s) (i := b.toNat) (by omega))
  rw [← toNat_rd _ hi0] at h1 h2 h3
  rw [← toNat_rd _ hi0] at h2
  rw [← toNat_rd _ hb0] at h4
  rw [w64 (x := 2 * rd h i) (by omega) (by omega), w64 (x := 2 * rd h i + 1) (by omega) (by omega)]
  have := mul_small (a := 2 * rd h i + 1) (b := rd s b) (by omega) (by omega) (by omega) (by omega)
  exact w64 (by omega) (by omega)
theorem Had.one {s h : List Int} (H : Had s h) (hs : ∀ x ∈ s, 1 ≤ x ∧ x ≤ 120) {b : Int} (hb0 : 0 ≤ b) (hb : b < s.length) : wrap64 (rd h b + 1) = rd h b + 1 := by
  have h1 := H.lo b.toNat (by omega)
  have h2 := H.hi b.toNat (by omega)
  have h3 := hs _ (rd_mem (l := s) (i := b.toNat) (by omega))
  rw [← toNat_rd _ hb0] at h1 h2 h3
  rw [← toNat_rd _ hb0] at h2
  exact w64 (by omega) (by omega)

theorem specT_in {k : Nat} {s h out : List Int} {n : Int} {slot : Nat} {r0 : List Int → Int → List Int → List Int → Int → Option (List Int × Int)} (S : Sok s) (H : Had s h) (hlen : out.length ≤ 1000) (hsl : slot ≤ 1000) (hlt : h.sum ≠ s.sum) :
    ∀ (d i m : Nat) (b : Int), s.length - i = d → i ≤ s.length → d < m → (b = -1 ∨ (0 ≤ b ∧ b < s.length ∧ rd h b ≠ rd s b)) → pickS s h d i b = pickS s h s.length 0 (-1) →
    spec_TurnsFromShares.l1 k r0 m s n out h slot b i = r0 s n (out ++ [pickS s h s.length 0 (-1)]) (h.set (pickS s h s.length 0 (-1)).toNat (rd h (pickS s h s.length 0 (-1)) + 1)) ((slot + 1 : Nat) : Int) := by
  have hp := pickS_ok s h s.length 0 (-1) (by omega) (.inl rfl) (.inl (H.some hlt))
  have hlh := H.len
  have hl := S.l8
  intro d
  induction d with
  | zero =>
    intro i m b hd hi hm hb hpk
    cases m with
    | zero => omega
    | succ m =>
      simp only [pickS] at hpk
      subst hpk
      simp only [spec_TurnsFromShares.l1, spec_TurnsFromShares.s1]
      rw [if_neg (by omega), if_pos hp.1, if_pos (by omega), if_pos hp.1, if_pos (by omega), if_pos (by omega), H.one S.el hp.1 hp.2.1, w64n (by omega)]
  | succ d ih =>
    intro i m b hd hi hm hb hpk
    cases m with
    | zero => omega
    | succ m =>
      simp only [spec_TurnsFromShares.l1, spec_TurnsFromShares.s1]
      rw [if_pos (by omega), if_pos (by omega), if_pos (by omega), if_pos (by omega), if_pos (by omega), w64n (by omega)]
      simp only [pickS] at hpk
      by_cases e : rd h i = rd s i
      · rw [if_pos e]
        rw [if_pos e] at hpk
        exact ih (i + 1) m b (by omega) (by omega) (by omega) hb hpk
      · rw [if_neg e]
        rw [if_neg e] at hpk
        have hi' : 0 ≤ (i : Int) ∧ (i : Int) < s.length ∧ rd h (i : Int) ≠ rd s (i : Int) := ⟨by omega, by omega, e⟩
        by_cases hb0 : b < 0
        · rw [if_pos hb0]
          rw [if_pos hb0] at hpk
          exact ih (i + 1) m i (by omega) (by omega) (by omega) (.inr hi') hpk
        · rw [if_neg hb0]
          rw [if_neg hb0] at hpk
          have hb' : 0 ≤ b ∧ b < s.length ∧ rd h b ≠ rd s b := by
            rcases hb with rfl | hb
            · omega
            · exact hb
          have g1 : 0 ≤ b := hb'.1
          have g2 : b < s.length := hb'.2.1
          rw [if_pos (by omega), if_pos (by omega), if_pos g1, if_pos g2, if_pos g1, if_pos (by omega), if_pos (by omega), if_pos (by omega)]
          rw [test_eq H S.el (i := i) (b := b) (by omega) (by omega) g1 g2, test_eq H S.el (i := b) (b := i) g1 g2 (by omega) (by omega)]
          by_cases hc : (2 * rd h i + 1) * rd s b < (2 * rd h b + 1) * rd s i
          · rw [if_pos hc]
            rw [if_pos hc] at hpk
            exact ih (i + 1) m i (by omega) (by omega) (by omega) (.inr hi') hpk
          · rw [if_neg hc]
            rw [if_neg hc] at hpk
            exact ih (i + 1) m b (by omega) (by omega) (by omega) hb hpk

theorem implT_in {k : Nat} {s h out : List Int} {n : Int} {slot : Nat} {r0 : List Int → List Int → List Int → Int → Int → Option (List Int × Int)} (S : Sok s) (H : Had s h) (hlen : out.length ≤ 1000) (hsl : slot ≤ 1000) (hlt : h.sum ≠ s.sum) :
    ∀ (d i m : Nat) (b : Int), s.length - i = d → i ≤ s.length → d < m → (b = -1 ∨ (0 ≤ b ∧ b < s.length ∧ rd h b ≠ rd s b)) → pickS s h d i b = pickS s h s.length 0 (-1) →
    impl_TurnsFromShares.l1 k r0 m s h out b n slot s s.length i = r0 s (h.set (pickS s h s.length 0 (-1)).toNat (rd h (pickS s h s.length 0 (-1)) + 1)) (out ++ [pickS s h s.length 0 (-1)]) n ((slot + 1 : Nat) : Int) := by
  have hp := pickS_ok s h s.length 0 (-1) (by omega) (.inl rfl) (.inl (H.some hlt))
  have hlh := H.len
  have hl := S.l8
  intro d
  induction d with
  | zero =>
    intro i m b hd hi hm hb hpk
    cases m with
    | zero => omega
    | succ m =>
      simp only [pickS] at hpk
      subst hpk
      simp only [impl_TurnsFromShares.l1, impl_TurnsFromShares.s1]
      rw [if_neg (by omega), if_pos hp.1, if_pos (by omega), if_pos hp.1, if_pos (by omega), if_pos (by omega), H.one S.el hp.1 hp.2.1, w64n (by omega)]
  | succ d ih =>
    intro i m b hd hi hm hb hpk
    cases m with
    | zero => omega
    | succ m =>
      have hle := H.hi i (by omega)
      simp only [impl_TurnsFromShares.l1, impl_TurnsFromShares.s1]
      rw [if_pos (by omega), if_pos (by omega), if_pos (by omega), if_pos (by omega), if_pos (by omega), w64n (by omega)]
      simp only [pickS] at hpk
      by_cases e : rd h i = rd s i
      · rw [if_neg (by omega)]
        rw [if_pos e] at hpk
        exact ih (i + 1) m b (by omega) (by omega) (by omega) hb hpk
      · rw [if_pos (show rd h i < rd s i by omega)]
        rw [if_neg e] at hpk
        have hi' : 0 ≤ (i : Int) ∧ (i : Int) < s.length ∧ rd h (i : Int) ≠ rd s (i : Int) := ⟨by omega, by omega, e⟩
        rcases hb with rfl | hb'
        · rw [if_pos rfl]
          rw [if_pos (by omega)] at hpk
          exact ih (i + 1) m i (by omega) (by omega) (by omega) (.inr hi') hpk
        · have g1 : 0 ≤ b := hb'.1
          have g2 : b < s.length := hb'.2.1
          rw [if_neg (show ¬ b = -1 by omega)]
          rw [if_neg (by omega)] at hpk
          rw [if_pos (by omega), if_pos (by omega), if_pos g1, if_pos g2, if_pos g1, if_pos (by omega)]
          rw [test_eq H S.el (i := i) (b := b) (by omega) (by omega) g1 g2, test_eq H S.el (i := b) (b := i) g1 g2 (by omega) (by omega)]
          by_cases hc : (2 * rd h i + 1) * rd s b < (2 * rd h b + 1) * rd s i
          · rw [if_pos hc]
            rw [if_pos hc] at hpk
            exact ih (i + 1) m i (by omega) (by omega) (by omega) (.inr hi') hpk
          · rw [if_neg hc]
            rw [if_neg hc] at hpk
            exact ih (i + 1) m b (by omega) (by omega) (by omega) (.inr hb') hpk

theorem deal_step {s h : List Int} (S : Sok s) (H : Had s h) (hlt : h.sum ≠ s.sum) : Had s (h.set (pickS s h s.length 0 (-1)).toNat (rd h (pickS s h s.length 0 (-1)) + 1)) ∧ (h.set (pickS s h s.length 0 (-1)).toNat (rd h (pickS s h s.length 0 (-1)) + 1)).sum = h.sum + 1 := by
  have hp := pickS_ok s h s.length 0 (-1) (by omega) (.inl rfl) (.inl (H.some hlt))
  have hlh := H.len
  refine ⟨H.next hp.1 hp.2.1 hp.2.2, ?_⟩
  have hsum := sum_setS h (pickS s h s.length 0 (-1)).toNat (rd h (pickS s h s.length 0 (-1)) + 1) (by omega)
  rw [← toNat_rd _ hp.1] at hsum
  omega

theorem specT_out {k : Nat} {s : List Int} (hk : 2097152 ≤ k) (S : Sok s) : ∀ (d t m : Nat) (h out : List Int), Had s h → h.sum = t → s.sum - t = d → d < m → out.length = t →
    spec_TurnsFromShares.l0 k m s s.sum out h t = some (dealS s d h out, 0) := by
  have sm := S.sm
  have hl := S.l8
  intro d
  induction d with
  | zero =>
    intro t m h out H ht hd hm ho
    cases m with
    | zero => omega
    | succ m =>
      simp only [spec_TurnsFromShares.l0, spec_TurnsFromShares.s0]
      rw [if_neg (by omega)]; rfl
  | succ d ih =>
    intro t m h out H ht hd hm ho
    cases m with
    | zero => omega
    | succ m =>
      simp only [spec_TurnsFromShares.l0, spec_TurnsFromShares.s0]
      obtain ⟨g1, g2⟩ := deal_step S H (by omega)
      have e := specT_in (k := k) (n := s.sum) (slot := t) (out := out) (r0 := spec_TurnsFromShares.l0 k m) S H (by omega) (by omega) (by omega) s.length 0 k (-1) (by omega) (by omega) (by omega) (.inl rfl) rfl
      rw [Int.natCast_zero] at e
      rw [if_pos (by omega), e]
      exact ih (t + 1) m _ _ g1 (by omega) (by omega) (by omega) (by rw [List.length_append, ho]; rfl)

theorem implT_out {k : Nat} {s : List Int} (hk : 2097152 ≤ k) (S : Sok s) : ∀ (d t m : Nat) (h out : List Int), Had s h → h.sum = t → s.sum - t = d → d < m → out.length = t →
    impl_TurnsFromShares.l0 k m s h out s.sum t = some (dealS s d h out, 0) := by
  have sm := S.sm
  have hl := S.l8
  intro d
  induction d with
  | zero =>
    intro t m h out H ht hd hm ho
    cases m with
    | zero => omega
    | succ m =>
      simp only [impl_TurnsFromShares.l0, impl_TurnsFromShares.s0]
      rw [if_neg (by omega)]; rfl
  | succ d ih =>
    intro t m h out H ht hd hm ho
    cases m with
    | zero => omega
    | succ m =>
      simp only [impl_TurnsFromShares.l0, impl_TurnsFromShares.s0]
      obtain ⟨g1, g2⟩ := deal_step S H (by omega)
      have e := implT_in (k := k) (n := s.sum) (slot := t) (out := out) (r0 := impl_TurnsFromShares.l0 k m) S H (by omega) (by omega) (by omega) s.length 0 k (-1) (by omega) (by omega) (by omega) (.inl rfl) rfl
      rw [Int.natCast_zero] at e
      rw [if_pos (by omega), e]
      exact ih (t + 1) m _ _ g1 (by omega) (by omega) (by omega) (by rw [List.length_append, ho]; rfl)

theorem Had.zero {s : List Int} (S : Sok s) : Had s (List.replicate s.length 0) := by
  refine ⟨by simp, fun i hi => by rw [rd_rep _ _ _ hi]; omega, fun i hi => ?_⟩
  rw [rd_rep _ _ _ hi]
  have := S.el _ (rd_mem hi)
  omega
def dealtS (s : List Int) : List Int × Int := if sharesOk s = true then (dealS s s.sum.toNat (List.replicate s.length 0) [], 0) else ([], 2)

theorem spec_Turns_f {k : Nat} {s : List Int} (hk : 2097152 ≤ k) (hl : s.length ≤ 1048576) : spec_TurnsFromShares.f k s = some (dealtS s) := by
  unfold spec_TurnsFromShares.f spec_TurnsFromShares.g dealtS
  rw [l10Shares_f hk hl, Option.bind_some]
  by_cases h : sharesOk s = true
  · have S := sharesOk_iff.1 h
    have hp := S.pos
    have sm := S.sm
    simp only [if_pos h]
    rw [if_neg (by omega), if_pos (by omega), if_pos (by omega), if_pos (by omega), Int.toNat_natCast]
    have := specT_out hk S s.sum.toNat 0 k (List.replicate s.length 0) [] (Had.zero S) (by rw [sum_rep0]; rfl) (by omega) (by omega) rfl
    rw [Int.natCast_zero] at this
    exact this
  · simp only [if_neg h]
    rw [if_pos trivial]

theorem impl_Turns_f {k : Nat} {s : List Int} (hk : 2097152 ≤ k) (hl : s.length ≤ 1048576) : impl_TurnsFromShares.f k s = some (dealtS s) := by
  unfold impl_TurnsFromShares.f impl_TurnsFromShares.g dealtS
  rw [areShares_f hk hl, Option.bind_some]
  by_cases h : sharesOk s = true
  · have S := sharesOk_iff.1 h
    have hp := S.pos
    have sm := S.sm
    have l8 := S.l8
    rw [if_pos h, if_pos h, if_pos (by omega), if_pos (by omega), if_pos (by omega), total_s hk (by omega) (fun x hx => by have := S.el x hx; omega), Option.bind_some, Int.toNat_natCast]
    have := implT_out hk S s.sum.toNat 0 k (List.replicate s.length 0) [] (Had.zero S) (by rw [sum_rep0]; rfl) (by omega) (by omega) rfl
    rw [Int.natCast_zero] at this
    exact this
  · rw [if_neg h, if_neg h]

/-! ### What the turns hold -/

def cntI (l : List Int) (x : Int) : Nat := l.countP fun y => decide (y = x)
theorem cntI_app (l : List Int) (y x : Int) : cntI (l ++ [y]) x = cntI l x + (if y = x then 1 else 0) := by
  unfold cntI
  rw [List.countP_append]
  by_cases e : y = x <;> simp [e]

theorem deal_cnt {s : List Int} (S : Sok s) : ∀ (d : Nat) (h out : List Int), Had s h → s.sum - h.sum = d → (∀ i : Nat, i < s.length → (cntI out i : Int) = rd h i) → (∀ x ∈ out, 0 ≤ x ∧ x < s.length) →
    (∀ i : Nat, i < s.length → (cntI (dealS s d h out) i : Int) = rd s i) ∧ (∀ x ∈ dealS s d h out, 0 ≤ x ∧ x < s.length) ∧ (dealS s d h out).length = out.length + d := by
  intro d
  induction d with
  | zero =>
    intro h out H hd hc he
    have e : h = s := by
      by_cases c : ∀ i : Nat, i < s.length → rd h i = rd s i
      · exact sum_eq_of h s H.len c
      · exfalso
        rw [Classical.not_forall] at c
        obtain ⟨j, hj⟩ := c
        rw [Classical.not_imp] at hj
        have hi := H.hi j hj.1
        -- a sum that is less
        have : ∀ (a b : List Int), a.length = b.length → (∀ i : Nat, i < b.length → rd a i ≤ rd b i) → (∃ i : Nat, i < b.length ∧ rd a i < rd b i) → a.sum < b.sum := by
          intro a
          induction a with
          | nil => intro b hl _ ⟨i, hi, _⟩; rw [← hl] at hi; simp at hi
          | cons x a ih =>
            intro b hl hle ⟨i, hi, hlt⟩
            match b, hl with
            | y :: b, hl =>
              have h0 := hle 0 (by simp)
              have h0 : x ≤ y := h0
              have hle' : ∀ i : Nat, i < b.length → rd a i ≤ rd b i := fun i hi => by
                have := hle (i + 1) (by simpa using hi)
                rw [rd_cons, rd_cons] at this; exact this
              rw [List.sum_cons, List.sum_cons]
              have hle2 : a.sum ≤ b.sum := by
                by_cases c : ∃ i : Nat, i < b.length ∧ rd a i < rd b i
                · have := ih b (by simpa using hl) hle' c; omega
                · have : a = b := sum_eq_of a b (by simpa using hl) fun i hi => by
                    have h1 := hle' i hi
                    have h2 : ¬ rd a i < rd b i := fun x => c ⟨i, hi, x⟩
                    omega
                  rw [this]; omega
              cases i with
              | zero => have : x < y := hlt; omega
              | succ i =>
                rw [rd_cons, rd_cons] at hlt
                have := ih b (by simpa using hl) hle' ⟨i, by simpa using hi, hlt⟩
                omega
        have := this h s H.len (fun i hi => H.hi i hi) ⟨j, hj.1, by omega⟩
        omega
    subst e
    exact ⟨hc, he, rfl⟩
  | succ d ih =>
    intro h out H hd hc he
    have hlt : h.sum ≠ s.sum := by omega
    have hp := pickS_ok s h s.length 0 (-1) (by omega) (.inl rfl) (.inl (H.some hlt))
    obtain ⟨g1, g2⟩ := deal_step S H hlt
    have hlh := H.len
    simp only [dealS]
    have := ih _ (out ++ [pickS s h s.length 0 (-1)]) g1 (by omega) (fun i hi => by
      rw [cntI_app, rd_setS _ _ _ _ (by omega)]
      have := hc i hi
      by_cases e : pickS s h s.length 0 (-1) = (i : Int)
      · rw [if_pos e, if_pos (by omega)]
        rw [e]; push_cast; omega
      · rw [if_neg e, if_neg (by omega)]; push_cast; omega) (fun x hx => by
      rcases List.mem_append.1 hx with hx | hx
      · exact he x hx
      · rw [List.mem_singleton.1 hx]; exact ⟨hp.1, hp.2.1⟩)
    refine ⟨this.1, this.2.1, ?_⟩
    rw [this.2.2, List.length_append, List.length_singleton]; omega

theorem dealt_ok {s : List Int} (S : Sok s) : (dealtS s).2 = 0 ∧ (∀ i : Nat, i < s.length → (cntI (dealtS s).1 i : Int) = rd s i) ∧ (∀ x ∈ (dealtS s).1, 0 ≤ x ∧ x < s.length) ∧ ((dealtS s).1.length : Int) = s.sum := by
  unfold dealtS
  rw [if_pos (sharesOk_iff.2 S)]
  have hp := S.pos
  have := deal_cnt S s.sum.toNat (List.replicate s.length 0) [] (Had.zero S) (by rw [sum_rep0]; omega) (fun i hi => by rw [rd_rep _ _ _ hi]; rfl) (fun x hx => by cases hx)
  refine ⟨rfl, this.1, this.2.1, ?_⟩
  show ((dealS s s.sum.toNat (List.replicate s.length 0) []).length : Int) = s.sum
  rw [this.2.2]; simp; omega

theorem dealt_len {s : List Int} : (dealtS s).1.length ≤ 120 := by
  by_cases h : sharesOk s = true
  · have S := sharesOk_iff.1 h
    have := (dealt_ok S).2.2.2
    have := S.sm
    omega
  · unfold dealtS; rw [if_neg h]; simp

end Go.Proofs.Ytmgdobiloapelaa.Vf
