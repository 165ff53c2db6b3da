/- Means by weights, draws, and the law on waits. -/
import Derived.Test.YtmgdobiloapelaaQWtB
set_option linter.unusedVariables false
set_option linter.unusedSimpArgs false
namespace Go.Proofs.Ytmgdobiloapelaa.Vf
open Go Go.V Go.RowKit

/-! ### Weights -/

def tot : List Int → Int
  | [] => 0
  | w :: ws => w + tot ws
def w100 (w : Int) : Bool := decide (0 ≤ w ∧ w ≤ 100)
def weightsB (ws : List Int) : Bool := decide (1 ≤ ws.length ∧ ws.length ≤ 8) && (ws.all w100 && decide (0 < tot ws))

theorem tot_bnd : ∀ {ws : List Int}, ws.all w100 = true → 0 ≤ tot ws ∧ tot ws ≤ ws.length * 100
  | [], _ => by simp [tot]
  | w :: ws, h => by
    rw [List.all_cons, Bool.and_eq_true] at h
    have h1 := of_decide_eq_true h.1
    have h2 := tot_bnd h.2
    simp only [tot, List.length_cons]
    push_cast
    omega

theorem areAll_w {k : Nat} {l : List Int} (hk : 2097152 ≤ k) (hl : l.length ≤ 1048576) : impl_areAll_int64_impl_areWeights_1.f k l () = some (l.all w100) := by
  obtain ⟨j, h1, h2⟩ := idx_run (L := slices_IndexFunc_int64_int64_impl_areAll_int64_1_impl_areWeights_1.l0 k) (p := fun x => !w100 x) (l := l) (c := ())
    (fun n i hi => by
      simp only [slices_IndexFunc_int64_int64_impl_areAll_int64_1_impl_areWeights_1.l0, slices_IndexFunc_int64_int64_impl_areAll_int64_1_impl_areWeights_1.s0]
      rw [if_pos (by omega), if_pos (by omega), if_pos (by omega)]
      simp only [impl_areAll_int64_1_impl_areWeights_1.f, impl_areWeights_1.f, within_f, Option.bind_some, w64n (show i ≤ 9223372036854775806 by omega)]
      unfold w100
      cases decide (0 ≤ rd l i ∧ rd l i ≤ 100) <;> simp)
    (fun n => by
      simp only [slices_IndexFunc_int64_int64_impl_areAll_int64_1_impl_areWeights_1.l0, slices_IndexFunc_int64_int64_impl_areAll_int64_1_impl_areWeights_1.s0]
      rw [if_neg (by omega)]) l.length 0 k (by omega) (by omega) (by omega)
  unfold impl_areAll_int64_impl_areWeights_1.f slices_ContainsFunc_int64_int64_impl_areAll_int64_1_impl_areWeights_1.f slices_IndexFunc_int64_int64_impl_areAll_int64_1_impl_areWeights_1.f slices_IndexFunc_int64_int64_impl_areAll_int64_1_impl_areWeights_1.g
  rw [show slices_IndexFunc_int64_int64_impl_areAll_int64_1_impl_areWeights_1.l0 k k l () l.length 0 = some j from h1, Option.bind_some, Option.bind_some]
  rw [List.drop_zero] at h2
  congr 1
  exact all_iff (p := fun x => !w100 x) (fun _ => rfl) h2

theorem total_f {k : Nat} {ws : List Int} (hk : 2097152 ≤ k) (hl : ws.length ≤ 1048576) (h : ws.all w100 = true) : impl_total.f k ws = some (tot ws) := by
  have key : ∀ (d i n : Nat) (a : Int), ws.length - i = d → i ≤ ws.length → d < n → 0 ≤ a → a ≤ i * 100 → (ws.drop i).all w100 = true → impl_total.l0 k n a ws ws.length i = some (a + tot (ws.drop i)) := by
    intro d
    induction d with
    | zero =>
      intro i n a hd hi hn h0 h1 hw
      cases n with
      | zero => omega
      | succ n =>
        simp only [impl_total.l0, impl_total.s0]
        rw [if_neg (by omega), List.drop_eq_nil_of_le (by omega)]; simp [tot]
    | succ d ih =>
      intro i n a hd hi hn h0 h1 hw
      cases n with
      | zero => omega
      | succ n =>
        rw [drop_cons (by omega), List.all_cons, Bool.and_eq_true] at hw
        have b : 0 ≤ rd ws i ∧ rd ws i ≤ 100 := of_decide_eq_true hw.1
        simp only [impl_total.l0, impl_total.s0]
        rw [w64n (by omega), if_pos (by omega), if_pos (by omega), if_pos (by omega), w64 (by omega) (by omega), ih (i + 1) n _ (by omega) (by omega) (by omega) (by omega) (by push_cast; omega) hw.2, drop_cons (l := ws) (i := i) (by omega)]
        simp only [tot]
        congr 1; omega
  unfold impl_total.f impl_total.g
  have := key ws.length 0 k 0 (by omega) (by omega) (by omega) (by omega) (by omega) (by rw [List.drop_zero]; exact h)
  rw [Int.zero_add, List.drop_zero] at this
  exact this

theorem impl_weights_f {k : Nat} {ws : List Int} (hk : 2097152 ≤ k) (hl : ws.length ≤ 1048576) : impl_areWeights.f k ws = some (weightsB ws) := by
  unfold impl_areWeights.f impl_isMany.f weightsB
  rw [length_f, Option.bind_some, within_f, Option.bind_some, Option.bind_some]
  by_cases c : 1 ≤ ws.length ∧ ws.length ≤ 8
  · rw [if_pos (decide_eq_true (by omega)), decide_eq_true c, Bool.true_and, areAll_w hk hl, Option.bind_some]
    by_cases c2 : ws.all w100 = true
    · rw [if_pos c2, total_f hk hl c2, Option.bind_some, c2, Bool.true_and]
    · rw [if_neg c2]
      rw [Bool.not_eq_true] at c2
      rw [c2, Bool.false_and]
  · rw [if_neg (by rw [decide_eq_true_eq]; omega), decide_eq_false c, Bool.false_and]

theorem spec_weights_f {k : Nat} {ws : List Int} (hk : 2097152 ≤ k) (hl : ws.length ≤ 1048576) : spec_l10Weights.f k ws 0 8 = some (weightsB ws) := by
  have key : ∀ (d i n : Nat) (a : Int), ws.length - i = d → i ≤ ws.length → d < n → 0 ≤ a → a ≤ i * 100 → spec_l10Weights.l0 k n ws 0 8 a i = some (if (ws.drop i).all w100 = true then (if 0 < a + tot (ws.drop i) then decide ((ws.length : Int) ≤ 8) else false) else false) := by
    intro d
    induction d with
    | zero =>
      intro i n a hd hi hn h0 h1
      cases n with
      | zero => omega
      | succ n =>
        simp only [spec_l10Weights.l0, spec_l10Weights.s0]
        rw [if_neg (by omega), List.drop_eq_nil_of_le (by omega), List.all_nil, if_pos rfl]
        simp only [tot, Int.add_zero]
        split <;> rfl
    | succ d ih =>
      intro i n a hd hi hn h0 h1
      cases n with
      | zero => omega
      | succ n =>
        simp only [spec_l10Weights.l0, spec_l10Weights.s0]
        rw [if_pos (by omega), if_pos (by omega), if_pos (by omega), l01In_f, Option.bind_some, drop_cons (l := ws) (i := i) (by omega), List.all_cons]
        by_cases c : 0 ≤ rd ws i ∧ rd ws i ≤ 100
        · rw [if_pos (decide_eq_true c), if_pos (by omega), if_pos (by omega), w64n (by omega), w64 (x := a + rd ws i) (by omega) (by omega), ih (i + 1) n _ (by omega) (by omega) (by omega) (by omega) (by push_cast; omega)]
          rw [show w100 (rd ws i) = true from decide_eq_true c, Bool.true_and]
          simp only [tot, Int.add_assoc]
          rfl
        · rw [if_neg (by simpa using c), show w100 (rd ws i) = false from decide_eq_false c, Bool.false_and]; rfl
  unfold spec_l10Weights.f spec_l10Weights.g weightsB
  have := key ws.length 0 k 0 (by omega) (by omega) (by omega) (by omega) (by omega)
  rw [List.drop_zero, Int.zero_add] at this
  refine this.trans ?_
  congr 1
  by_cases c : ws.all w100 = true
  · rw [if_pos c, c, Bool.true_and]
    by_cases c2 : 0 < tot ws
    · rw [if_pos c2, decide_eq_true c2, Bool.and_true, decide_eq_decide]
      have : 1 ≤ ws.length := by
        cases ws with
        | nil => exact absurd c2 (by decide)
        | cons a l => simp
      omega
    · rw [if_neg c2, decide_eq_false c2, Bool.and_false]
  · rw [if_neg c]
    rw [Bool.not_eq_true] at c
    rw [c, Bool.false_and, Bool.and_false]

def hasL (cs : List Int) : List Int → Nat → Bool
  | [], _ => true
  | w :: ws, j => (if 0 < w then memB cs j else true) && hasL cs ws (j + 1)
def wsumL (cs : List Int) : List Int → Nat → Int
  | [], _ => 0
  | w :: ws, j => (if 0 < w then w * sumL cs j j cs.length 0 else 0) + wsumL cs ws (j + 1)

theorem hasL_step {cs : List Int} {w : Int} {ws : List Int} {j : Nat} (h : hasL cs (w :: ws) j = true) : (0 < w → (j : Int) ∈ cs) ∧ hasL cs ws (j + 1) = true := by
  simp only [hasL, Bool.and_eq_true] at h
  refine ⟨fun c => ?_, h.2⟩
  rw [if_pos c] at h
  exact of_decide_eq_true h.1

theorem term_bnd {cs : List Int} {w : Int} {j : Int} (hj : j ∈ cs) (hl : cs.length ≤ 120) (h0 : 0 ≤ w) (h1 : w ≤ 100) : 0 ≤ w * sumL cs j j cs.length 0 ∧ w * sumL cs j j cs.length 0 ≤ 1440000 := by
  have b := sum_le hj hj hl
  have a1 := Int.mul_nonneg h0 b.1
  have a2 := Int.mul_le_mul h1 b.2 b.1 (by omega)
  omega

theorem wsum_bnd {cs : List Int} (hl : cs.length ≤ 120) : ∀ {ws : List Int} {j : Nat}, ws.all w100 = true → hasL cs ws j = true → 0 ≤ wsumL cs ws j ∧ wsumL cs ws j ≤ ws.length * 1440000
  | [], j, _, _ => by simp [wsumL]
  | w :: ws, j, h, h2 => by
    rw [List.all_cons, Bool.and_eq_true] at h
    have b := of_decide_eq_true h.1
    obtain ⟨m1, m2⟩ := hasL_step h2
    have ih := wsum_bnd hl h.2 m2
    simp only [wsumL, List.length_cons]
    by_cases c : 0 < w
    · have := term_bnd (m1 c) hl b.1 b.2
      rw [if_pos c]; push_cast; omega
    · rw [if_neg c]; push_cast; omega

theorem impl_weighted_f {k : Nat} {cs ws : List Int} (hk : 2097152 ≤ k) (hc : cs.length ≤ 120) (hl : ws.length ≤ 8) (hw : ws.all w100 = true) (hh : hasL cs ws 0 = true) : impl_weighted.f k cs ws = some (wsumL cs ws 0) := by
  have key : ∀ (d i n : Nat) (a : Int), ws.length - i = d → i ≤ ws.length → d < n → 0 ≤ a → a ≤ i * 1440000 → (ws.drop i).all w100 = true → hasL cs (ws.drop i) i = true → impl_weighted.l0 k n cs a ws ws.length i = some (a + wsumL cs (ws.drop i) i) := by
    intro d
    induction d with
    | zero =>
      intro i n a hd hi hn h0 h1 hw hh
      cases n with
      | zero => omega
      | succ n =>
        simp only [impl_weighted.l0, impl_weighted.s0]
        rw [if_neg (by omega), List.drop_eq_nil_of_le (by omega)]; simp [wsumL]
    | succ d ih =>
      intro i n a hd hi hn h0 h1 hw hh
      cases n with
      | zero => omega
      | succ n =>
        rw [drop_cons (by omega)] at hw hh
        rw [List.all_cons, Bool.and_eq_true] at hw
        have b : 0 ≤ rd ws i ∧ rd ws i ≤ 100 := of_decide_eq_true hw.1
        obtain ⟨m1, m2⟩ := hasL_step hh
        simp only [impl_weighted.l0, impl_weighted.s0]
        rw [w64n (by omega), if_pos (by omega), if_pos (by omega), if_pos (by omega), drop_cons (l := ws) (i := i) (by omega)]
        simp only [wsumL]
        by_cases c : 0 < rd ws i
        · have tb := term_bnd (m1 c) hc b.1 b.2
          rw [if_pos c, if_pos c, impl_sum_f hk (m1 c) hc, Option.bind_some, w64 (x := rd ws i * _) (by omega) (by omega), w64 (by omega) (by omega), ih (i + 1) n _ (by omega) (by omega) (by omega) (by omega) (by push_cast; omega) hw.2 m2]
          congr 1; omega
        · rw [if_neg c, if_neg c, ih (i + 1) n _ (by omega) (by omega) (by omega) (by omega) (by push_cast; omega) hw.2 m2]
          congr 1; omega
  unfold impl_weighted.f impl_weighted.g
  have := key ws.length 0 k 0 (by omega) (by omega) (by omega) (by omega) (by omega) (by rw [List.drop_zero]; exact hw) (by rw [List.drop_zero]; exact hh)
  rw [Int.zero_add, List.drop_zero] at this
  exact this

theorem spec_mean_f {k : Nat} {cs ws : List Int} (hk : 2097152 ≤ k) (hc : cs.length ≤ 120) (hl : ws.length ≤ 8) (hw : ws.all w100 = true) (hh : hasL cs ws 0 = true) : spec_l10Mean.f k cs ws = some (wsumL cs ws 0) := by
  have key : ∀ (d i n : Nat) (a : Int), ws.length - i = d → i ≤ ws.length → d < n → 0 ≤ a → a ≤ i * 1440000 → (ws.drop i).all w100 = true → hasL cs (ws.drop i) i = true → spec_l10Mean.l0 k n cs ws a i = some (a + wsumL cs (ws.drop i) i) := by
    intro d
    induction d with
    | zero =>
      intro i n a hd hi hn h0 h1 hw hh
      cases n with
      | zero => omega
      | succ n =>
        simp only [spec_l10Mean.l0, spec_l10Mean.s0]
        rw [if_neg (by omega), List.drop_eq_nil_of_le (by omega)]; simp [wsumL]
    | succ d ih =>
      intro i n a hd hi hn h0 h1 hw hh
      cases n with
      | zero => omega
      | succ n =>
        rw [drop_cons (by omega)] at hw hh
        rw [List.all_cons, Bool.and_eq_true] at hw
        have b : 0 ≤ rd ws i ∧ rd ws i ≤ 100 := of_decide_eq_true hw.1
        obtain ⟨m1, m2⟩ := hasL_step hh
        simp only [spec_l10Mean.l0, spec_l10Mean.s0]
        rw [w64n (by omega), if_pos (by omega), if_pos (by omega), if_pos (by omega), drop_cons (l := ws) (i := i) (by omega)]
        simp only [wsumL]
        by_cases c : 0 < rd ws i
        · have tb := term_bnd (m1 c) hc b.1 b.2
          rw [if_pos c, if_pos c, if_pos (by omega), if_pos (by omega), spec_sum_f hk (m1 c) (m1 c) hc, Option.bind_some, w64 (x := rd ws i * _) (by omega) (by omega), w64 (by omega) (by omega), ih (i + 1) n _ (by omega) (by omega) (by omega) (by omega) (by push_cast; omega) hw.2 m2]
          congr 1; omega
        · rw [if_neg c, if_neg c, ih (i + 1) n _ (by omega) (by omega) (by omega) (by omega) (by push_cast; omega) hw.2 m2]
          congr 1; omega
  unfold spec_l10Mean.f spec_l10Mean.g
  have := key ws.length 0 k 0 (by omega) (by omega) (by omega) (by omega) (by omega) (by rw [List.drop_zero]; exact hw) (by rw [List.drop_zero]; exact hh)
  rw [Int.zero_add, List.drop_zero] at this
  exact this

theorem byW_stop {k : Nat} {cs ws : List Int} (hk : 2097152 ≤ k) (hl : cs.length ≤ 1048576) (hlw : ws.length ≤ 1048576) (hcl : 1 ≤ cs.length ∧ cs.length ≤ 120) (h3 : 1 ≤ ws.length ∧ ws.length ≤ 8) (h4 : ws.all w100 = true) (h5 : 0 < tot ws) : hasL cs ws 0 = true → (impl_weighted.f k cs ws).bind (fun t4 => (impl_length_int64.f cs).bind fun t5 => (impl_total.f k ws).bind fun t6 => (impl_fraction.f k t4 (wrap64 (t5 * t6))).bind fun t7 => some (t7.1, t7.2.1, t7.2.2)) = (spec_l10Mean.f k cs ws).bind (fun t4 => (spec_l01Lowest.f k t4 (wrap64 (tot ws * (cs.length : Int)))).bind fun t5 => some (t5.1, t5.2, 0)) ∧ ∃ r, (impl_weighted.f k cs ws).bind (fun t4 => (impl_length_int64.f cs).bind fun t5 => (impl_total.f k ws).bind fun t6 => (impl_fraction.f k t4 (wrap64 (t5 * t6))).bind fun t7 => some (t7.1, t7.2.1, t7.2.2)) = some r := by
  intro hh
  have htot := tot_bnd h4
  have wb := wsum_bnd hcl.2 h4 hh
  have p1 : 0 ≤ (cs.length : Int) * tot ws := Int.mul_nonneg (by omega) (by omega)
  have p2 : (cs.length : Int) * tot ws ≤ 120 * 800 := Int.mul_le_mul (by omega) (by omega) (by omega) (by omega)
  have p3 : 1 ≤ (cs.length : Int) * tot ws := by
    have := Int.mul_le_mul (show (1 : Int) ≤ cs.length by omega) (show 1 ≤ tot ws by omega) (by omega) (by omega)
    omega
  obtain ⟨m, hm⟩ := Int.eq_ofNat_of_zero_le p1
  obtain ⟨t, w, g, g1, g2, g3, e1, e2⟩ := fraction_ok (k := k) hk (a := wsumL cs ws 0) (b := m) wb.1 (by omega) (by omega) (by omega)
  rw [impl_weighted_f hk hcl.2 h3.2 h4 hh, Option.bind_some, length_f, Option.bind_some, total_f hk hlw h4, Option.bind_some, spec_mean_f hk hcl.2 h3.2 h4 hh, Option.bind_some, Int.mul_comm (tot ws), w64 (by omega) (by omega), hm, e1, Option.bind_some, e2, Option.bind_some]
  exact ⟨rfl, _, rfl⟩

theorem byW_loop {k : Nat} {cs ws : List Int} (hk : 2097152 ≤ k) (hl : cs.length ≤ 1048576) (hlw : ws.length ≤ 1048576) (hcl : 1 ≤ cs.length ∧ cs.length ≤ 120) (h3 : 1 ≤ ws.length ∧ ws.length ≤ 8) (h4 : ws.all w100 = true) (h5 : 0 < tot ws) : ∀ (d i n : Nat) (a : Int), ws.length - i = d → i ≤ ws.length → d < n → 0 ≤ a → a ≤ i * 100 → a + tot (ws.drop i) = tot ws → (ws.drop i).all w100 = true → (hasL cs (ws.drop i) i = true → hasL cs ws 0 = true) → ∃ r, impl_MeanByWeights.l0 k n cs ws ws ws.length i = some r ∧ spec_MeanByWeights.l0 k n cs ws a i = some r := by
  have htot := tot_bnd h4
  intro d
  induction d with
  | zero =>
    intro i n a hd hi hn h0 h1 hs hw hh
    cases n with
    | zero => omega
    | succ n =>
      simp only [impl_MeanByWeights.l0, impl_MeanByWeights.s0, spec_MeanByWeights.l0, spec_MeanByWeights.s0]
      rw [List.drop_eq_nil_of_le (by omega)] at hs hh
      have ea : a = tot ws := by simp only [tot] at hs; omega
      rw [if_neg (by omega), if_neg (by omega), ea]
      obtain ⟨s1, r, s2⟩ := byW_stop hk hl hlw hcl h3 h4 h5 (hh rfl)
      exact ⟨r, s2, by rw [← s1]; exact s2⟩
  | succ d ih =>
    intro i n a hd hi hn h0 h1 hs hw hh
    cases n with
    | zero => omega
    | succ n =>
      rw [drop_cons (by omega)] at hs hw hh
      rw [List.all_cons, Bool.and_eq_true] at hw
      have b : 0 ≤ rd ws i ∧ rd ws i ≤ 100 := of_decide_eq_true hw.1
      have n1 : ws.length - (i + 1) = d := by omega
      have n2 : i + 1 ≤ ws.length := by omega
      have n3 : d < n := by omega
      have n4 : 0 ≤ a + rd ws i := by omega
      have n5 : a + rd ws i ≤ ((i + 1 : Nat) : Int) * 100 := by push_cast; omega
      have n6 : (a + rd ws i) + tot (ws.drop (i + 1)) = tot ws := by simp only [tot] at hs; omega
      have next := ih (i + 1) n (a + rd ws i) n1 n2 n3 n4 n5 n6 hw.2
      have ew : spec_l10Wait.f k cs i 0 = some (wt cs i 0) := spec_wait_f hk hl (i : Int) (s := 0) (by omega)
      have c1 : (0 : Int) ≤ i := by omega
      have c2 : (i : Int) < ws.length := by omega
      have c3 : wrap64 (a + rd ws i) = a + rd ws i := w64 (by omega) (by omega)
      have c4 : wrap64 ((i : Int) + 1) = ((i + 1 : Nat) : Int) := w64n (by omega)
      have E1 : impl_MeanByWeights.l0 k (n + 1) cs ws ws ws.length i = if 0 < rd ws i then ((slices_Contains_int64_int64.f k cs i).bind fun t3 => if t3 = true then impl_MeanByWeights.l0 k n cs ws ws ws.length ((i + 1 : Nat) : Int) else some (0, 0, 4)) else impl_MeanByWeights.l0 k n cs ws ws ws.length ((i + 1 : Nat) : Int) := by
        simp only [impl_MeanByWeights.l0, impl_MeanByWeights.s0, c4]
        rw [if_pos c2, if_pos c1, if_pos c2]
      have E2 : spec_MeanByWeights.l0 k (n + 1) cs ws a i = if 0 < rd ws i then ((spec_l10Wait.f k cs i 0).bind fun t3 => if t3 < 0 then some (0, 0, 4) else spec_MeanByWeights.l0 k n cs ws (a + rd ws i) ((i + 1 : Nat) : Int)) else spec_MeanByWeights.l0 k n cs ws (a + rd ws i) ((i + 1 : Nat) : Int) := by
        simp only [spec_MeanByWeights.l0, spec_MeanByWeights.s0, c4, c3]
        rw [if_pos c2, if_pos c1, if_pos c2]
        simp only [if_pos c2, if_pos c1]
      rw [E1, E2]
      by_cases c : 0 < rd ws i
      · rw [if_pos c, if_pos c, contains_mem hk hl, Option.bind_some, ew, Option.bind_some]
        by_cases c2 : (i : Int) ∈ cs
        · have := (wt_bnd (s := 0) c2 (by clear c3 c4 E1 E2; omega)).1
          rw [show memB cs i = true from decide_eq_true c2, if_pos rfl, if_neg (by clear c3 c4 E1 E2; omega)]
          exact next fun hq => hh (by simp only [hasL]; rw [if_pos c, show memB cs i = true from decide_eq_true c2, hq]; rfl)
        · rw [show memB cs i = false from decide_eq_false c2, if_neg (by decide), wt_none c2 (by clear c3 c4 E1 E2; omega), if_pos (by clear c3 c4 E1 E2; omega)]
          exact ⟨_, rfl, rfl⟩
      · rw [if_neg c, if_neg c]
        exact next fun hq => hh (by simp only [hasL]; rw [if_neg c, hq]; rfl)

theorem byWeights_both {k : Nat} {cs ws : List Int} (hk : 2097152 ≤ k) (hl : cs.length ≤ 1048576) (hlw : ws.length ≤ 1048576) : ∃ r, impl_MeanByWeights.f k cs ws = some r ∧ spec_MeanByWeights.f k cs ws = some r := by
  unfold impl_MeanByWeights.f impl_MeanByWeights.g spec_MeanByWeights.f spec_MeanByWeights.g
  have et : spec_l10Turns.f k cs [] = some (turnsW 8 cs) := by
    unfold spec_l10Turns.f spec_l10Turns.g
    cases k with
    | zero => omega
    | succ k =>
      simp only [spec_l10Turns.l0, spec_l10Turns.s0]
      rw [if_neg (by simp), l01TurnsW hk hl, Option.bind_some]
  rw [impl_weights_f hk hlw, Option.bind_some, impl_code_f hk hl (by simp), Option.bind_some, et, Option.bind_some]
  by_cases h1 : turnsW 8 cs = true
  · rw [if_pos h1, spec_weights_f hk hlw, Option.bind_some]
    by_cases h2 : weightsB ws = true
    · have hcode : wcode cs (weightsB ws) [] = 0 := by
        unfold wcode
        rw [h1, h2]; rfl
      rw [if_pos hcode, if_pos h2]
      have hcl : 1 ≤ cs.length ∧ cs.length ≤ 120 := by
        unfold turnsW at h1
        rw [Bool.and_eq_true] at h1
        exact of_decide_eq_true h1.1
      unfold weightsB at h2
      simp only [Bool.and_eq_true, decide_eq_true_eq] at h2
      obtain ⟨h3, h4, h5⟩ := h2
      have htot := tot_bnd h4
      obtain ⟨r, r1, r2⟩ := byW_loop hk hl hlw hcl h3 h4 h5 ws.length 0 k 0 (by omega) (by omega) (by omega) (by omega) (by omega) (by rw [List.drop_zero, Int.zero_add]) (by rw [List.drop_zero]; exact h4) (by rw [List.drop_zero]; exact fun h => h)
      exact ⟨r, r1, r2⟩
    · have hcode : wcode cs (weightsB ws) [] = 2 := by
        rw [Bool.not_eq_true] at h2
        unfold wcode
        rw [h2, Bool.false_and, Bool.and_false]; rfl
      rw [hcode, if_neg (by decide), if_neg h2]
      exact ⟨_, rfl, rfl⟩
  · have hcode : wcode cs (weightsB ws) [] = 2 := by
      rw [Bool.not_eq_true] at h1
      unfold wcode
      rw [h1, Bool.false_and]; rfl
    rw [hcode, if_neg (by decide), if_neg h1]
    exact ⟨_, rfl, rfl⟩

/-! ### Waits, slot by slot and gap by gap -/

def tri (w : Int) : Int := w * (w - 1) / 2
theorem tri_succ (w : Int) : tri (w + 1) = tri w + w := by
  unfold tri
  have e : (w + 1) * (w + 1 - 1) = w * (w - 1) + w * 2 := by
    rw [show w + 1 - 1 = w by omega, Int.add_mul, Int.mul_sub, Int.one_mul, Int.mul_one, Int.mul_comm w 2, Int.two_mul]; omega
  rw [e, Int.add_mul_ediv_right _ _ (by omega)]

def triL : List Int → Int
  | [] => 0
  | w :: ws => tri w + triL ws
theorem triL_app : ∀ (l : List Int) (x : Int), triL (l ++ [x]) = triL l + tri x
  | [], x => by simp [triL]
  | a :: l, x => by
    show tri a + triL (l ++ [x]) = tri a + triL l + tri x
    rw [triL_app l x]; omega

/-- The sum of the waits ahead of a slot. -/
def preS (cs : List Int) (i : Int) : Nat → Int
  | 0 => 0
  | m + 1 => preS cs i m + wt cs i m

theorem preS_sum {cs : List Int} {i : Int} : ∀ (d s : Nat), preS cs i s + sumL cs i i d s = preS cs i (s + d)
  | 0, s => by simp [sumL]
  | d + 1, s => by
    simp only [sumL, maxV_self]
    have := preS_sum (cs := cs) (i := i) d (s + 1)
    rw [show s + (d + 1) = s + 1 + d by omega, ← this]
    simp only [preS]; omega

/-- What is waited at a slot, the first one behind the last. -/
def wtE (cs : List Int) (i : Int) (m : Nat) : Int := wt cs i (m % cs.length)

theorem gaps_pre {cs : List Int} {i : Int} (hi : i ∈ cs) : ∀ (m : Nat), m ≤ cs.length →
    (places cs i m = [] ∧ preS cs i m = tri (m + wtE cs i m + 1) - tri (wtE cs i m + 1) ∧ wt cs i 0 = m + wtE cs i m) ∨
    (∃ f Q, places cs i m = f :: Q ∧ wt cs i 0 = f ∧ preS cs i m = tri (f + 1) + triL (dif f Q) + tri (m - lastA f Q + wtE cs i m) - tri (wtE cs i m + 1)) := by
  have hn : 1 ≤ cs.length := by
    cases cs with
    | nil => cases hi
    | cons a l => simp
  intro m
  induction m with
  | zero =>
    intro _
    left
    have e : wtE cs i 0 = wt cs i 0 := by unfold wtE; rw [Nat.zero_mod]
    refine ⟨rfl, ?_, ?_⟩
    · simp only [preS]
      rw [show ((0 : Nat) : Int) + wtE cs i 0 + 1 = wtE cs i 0 + 1 by omega]; omega
    · rw [e]; omega
  | succ m ih =>
    intro hm
    have hs : m < cs.length := by omega
    have e0 : wtE cs i m = wt cs i m := by unfold wtE; rw [Nat.mod_eq_of_lt hs]
    have en : wt cs i m = if rd cs m = i then 0 else wtE cs i (m + 1) + 1 := wt_next hi hs
    have t1 : tri 1 = 0 := by decide
    have hpre : preS cs i (m + 1) = preS cs i m + wt cs i m := rfl
    by_cases c : rd cs m = i
    · have hp : places cs i (m + 1) = places cs i m ++ [(m : Int)] := if_pos c
      rw [if_pos c] at en
      right
      rcases ih (by omega) with ⟨h1, h2, h3⟩ | ⟨f, Q, h1, h2, h3⟩
      · rw [e0, en] at h2 h3
        refine ⟨m, [], by rw [hp, h1]; rfl, by rw [h3]; omega, ?_⟩
        simp only [dif, triL, lastA]
        rw [hpre, h2, en, show ((m + 1 : Nat) : Int) - m + wtE cs i (m + 1) = wtE cs i (m + 1) + 1 by push_cast; omega, show (m : Int) + 0 + 1 = m + 1 by omega, Int.zero_add, t1]; omega
      · rw [e0, en, Int.add_zero] at h3
        refine ⟨f, Q ++ [(m : Int)], by rw [hp, h1]; rfl, h2, ?_⟩
        rw [dif_app, lastA_app, triL_app, hpre, h3, en, show ((m + 1 : Nat) : Int) - m + wtE cs i (m + 1) = wtE cs i (m + 1) + 1 by push_cast; omega, Int.zero_add, t1, Int.add_zero]; omega
    · have hp : places cs i (m + 1) = places cs i m := if_neg c
      rw [if_neg c] at en
      have ts : tri (wtE cs i (m + 1) + 1 + 1) = tri (wtE cs i (m + 1) + 1) + (wtE cs i (m + 1) + 1) := tri_succ _
      rcases ih (by omega) with ⟨h1, h2, h3⟩ | ⟨f, Q, h1, h2, h3⟩
      · left
        rw [e0, en] at h2 h3
        refine ⟨by rw [hp, h1], ?_, by rw [h3]; push_cast; omega⟩
        rw [hpre, h2, en, ts, show (m : Int) + (wtE cs i (m + 1) + 1) + 1 = ((m + 1 : Nat) : Int) + wtE cs i (m + 1) + 1 by push_cast; omega]; omega
      · right
        rw [e0, en] at h3
        refine ⟨f, Q, by rw [hp, h1], h2, ?_⟩
        rw [hpre, h3, en, ts, show (m : Int) - lastA f Q + (wtE cs i (m + 1) + 1) = ((m + 1 : Nat) : Int) - lastA f Q + wtE cs i (m + 1) by push_cast; omega]; omega

/-- The waits at all slots, summed up by the waits between turns. -/
theorem gaps_sum {cs : List Int} {i : Int} (hi : i ∈ cs) : sumL cs i i cs.length 0 = triL (wait cs i) := by
  have h0 := preS_sum (cs := cs) (i := i) cs.length 0
  rw [Nat.zero_add] at h0
  have hz : preS cs i 0 = 0 := rfl
  rw [hz, Int.zero_add] at h0
  have e : wtE cs i cs.length = wt cs i 0 := by unfold wtE; rw [Nat.mod_self]
  rw [h0]
  unfold wait
  rcases gaps_pre hi cs.length (Nat.le_refl _) with ⟨h1, h2, h3⟩ | ⟨f, Q, h1, h2, h3⟩
  · rw [e] at h3
    have hn : 1 ≤ cs.length := by
      cases cs with
      | nil => cases hi
      | cons a l => simp
    omega
  · rw [e, h2] at h3
    rw [h1, h3]
    show _ = triL (dif f Q ++ [(cs.length : Int) - lastA f Q + f])
    rw [triL_app]; omega

theorem wait_el {cs : List Int} {i : Int} (hl : cs.length ≤ 120) : ∀ x ∈ wait cs i, -240 ≤ x ∧ x ≤ 240 := by
  have hb := places_bnd cs i cs.length
  intro x hx
  obtain ⟨j, hj, e⟩ := List.getElem_of_mem hx
  have hj' : j < (places cs i cs.length).length := by
    have := wts_len (cs.length : Int) (places cs i cs.length)
    unfold wait at hj; omega
  have hr := wts_rd (cs.length : Int) (P := places cs i cs.length) (j := j) hj'
  have hx' : rd (wts cs.length (places cs i cs.length)) j = x := by rw [rd_lt (by unfold wait at hj; exact hj)]; exact e
  rw [hx'] at hr
  have b1 := hb _ (rd_mem (l := places cs i cs.length) (i := j) hj')
  have b2 := hb _ (rd_mem (l := places cs i cs.length) (i := 0) (by omega))
  split at hr
  · rename_i c
    have b3 := hb _ (rd_mem (l := places cs i cs.length) (i := j + 1) c)
    omega
  · omega

/-! ### Draws -/

theorem l10With_ok {k : Nat} (hk : 2097152 ≤ k) {c : List Int} (hb : ∀ x ∈ c, 0 ≤ x ∧ x ≤ 255) (hl : c.length ≤ 4096) : Gv (spec_l10With.f k c) fun r => r.1.length ≤ 1009 := by
  unfold spec_l10With.f
  refine Gv.bind (from_ok hk hb hl) fun s S => Gv.bind (next_ok S 5) fun a ha => Gv.bind (drawTurns_ok hk ha.1 _) fun t ht => Gv.bind (next_ok ht.1 _) fun b hb' => ?_
  have b1 := hb'.2.2 (by omega)
  refine Gv.pos b1.1 (Gv.pos b1.2 (Gv.ite (fun _ => ?_) fun _ => ?_))
  · exact Gv.bind (drawNear_ok hb'.1 7) fun u hu => Gv.bind (pick_ok hu _ (by simp)) fun v hv => Gv.bind (badTurns_ok hk hv.1 ht.2.1 (by omega)) fun w hw => Gv.ok hw.2
  · refine Gv.bind (next_ok hb'.1 6) fun d hd => Gv.ite (fun _ => ?_) fun _ => ?_
    · exact Gv.bind (drawNear_ok hd.1 7) fun u hu => Gv.bind (pick_ok hu _ (by simp)) fun v hv => Gv.bind (badTurns_ok hk hv.1 ht.2.1 (by omega)) fun w hw => Gv.ok hw.2
    · exact Gv.bind (badTurns_ok hk hd.1 ht.2.1 (by omega)) fun w hw => Gv.ok hw.2

theorem drawWaitForBoth_ok {k : Nat} (hk : 2097152 ≤ k) {c : List Int} (hb : ∀ x ∈ c, 0 ≤ x ∧ x ≤ 255) (hl : c.length ≤ 4096) : Gv (spec_DrawWaitForBoth.f k c) fun r => r.1.length ≤ 1009 := by
  unfold spec_DrawWaitForBoth.f
  refine Gv.bind (from_ok hk hb hl) fun s S => Gv.bind (l10With_ok hk hb hl) fun t ht => Gv.ite (fun c => ?_) fun _ => ?_
  · refine Gv.bind (next_ok S 4) fun a ha => Gv.ite (fun _ => ?_) fun _ => ?_
    · refine Gv.bind (next_ok ha.1 _) fun b hb' => ?_
      have b1 := hb'.2.2 (by omega)
      exact Gv.pos b1.1 (Gv.pos b1.2 (Gv.bind (drawNear_ok hb'.1 _) fun u hu => Gv.ok ht))
    · exact Gv.bind (drawNear_ok ha.1 _) fun u hu => Gv.ok ht
  · exact Gv.bind (drawNear_ok S _) fun u hu => Gv.ok ht

theorem drawCountWithin_ok {k : Nat} (hk : 2097152 ≤ k) {c : List Int} (hb : ∀ x ∈ c, 0 ≤ x ∧ x ≤ 255) (hl : c.length ≤ 4096) : Gv (spec_DrawCountWithin.f k c) fun r => r.1.length ≤ 1009 := by
  unfold spec_DrawCountWithin.f
  exact Gv.bind (from_ok hk hb hl) fun s S => Gv.bind (l10With_ok hk hb hl) fun t ht => Gv.bind (pick_ok S _ (by simp)) fun a ha => Gv.bind (drawNear_ok ha.1 _) fun u hu => Gv.ok ht

theorem drawWaitFrom_ok {k : Nat} (hk : 2097152 ≤ k) {c : List Int} (hb : ∀ x ∈ c, 0 ≤ x ∧ x ≤ 255) (hl : c.length ≤ 4096) : Gv (spec_DrawWaitFrom.f k c) fun r => r.1.length ≤ 1009 := by
  unfold spec_DrawWaitFrom.f
  exact Gv.bind (from_ok hk hb hl) fun s S => Gv.bind (l10With_ok hk hb hl) fun t ht => Gv.bind (drawNear_ok S _) fun u hu => Gv.ok ht

theorem drawWeights_ok {k : Nat} (hk : 2097152 ≤ k) {s : SrcT} (S : Src s) {m : Nat} (h1 : 1 ≤ m) (h2 : m ≤ 8) : Gv (spec_l10DrawWeights.f k s (m : Int)) fun r => Src r.2 ∧ r.1.length ≤ 10 := by
  have key : ∀ (d n : Nat) (out : List Int) (x : Int) (s : SrcT), Src s → 1 ≤ out.length + d → out.length + d ≤ 8 → d < n → Gv (spec_l10DrawWeights.l0 k n s.1 s.2.1 s.2.2 out x (d : Int)) fun r => Src r.2 ∧ r.1.length ≤ 10 := by
    intro d
    induction d with
    | zero =>
      intro n out x s S g1 g2 hn
      cases n with
      | zero => omega
      | succ n =>
        simp only [spec_l10DrawWeights.l0, spec_l10DrawWeights.s0]
        refine Gv.neg (by omega) (Gv.bind (next_ok S 24) fun a ha => Gv.ite (fun _ => ?_) fun _ => Gv.ite (fun _ => ?_) fun _ => Gv.ok ⟨ha.1, by simp only; omega⟩)
        · exact Gv.bind (pick_ok ha.1 _ (by simp)) fun b hb => Gv.pos (by omega) (Gv.ok ⟨hb.1, by simp; omega⟩)
        · exact Gv.pos (by omega) (Gv.ok ⟨ha.1, by simp; omega⟩)
    | succ d ih =>
      intro n out x s S g1 g2 hn
      cases n with
      | zero => omega
      | succ n =>
        simp only [spec_l10DrawWeights.l0, spec_l10DrawWeights.s0]
        rw [show wrap64 (((d + 1 : Nat) : Int) - 1) = (d : Int) by rw [w64 (by omega) (by omega)]; omega]
        exact Gv.pos (by omega) (Gv.bind (next_ok S _) fun a ha => Gv.pos (by omega) (ih n _ x _ ha.1 (by simp; omega) (by simp; omega) (by omega)))
  unfold spec_l10DrawWeights.f spec_l10DrawWeights.g
  refine Gv.bind (pick_ok S _ (by simp)) fun a ha => Gv.bind (next_ok ha.1 _) fun b hb => ?_
  have b1 := hb.2.2 (by omega)
  obtain ⟨e, he⟩ := Int.eq_ofNat_of_zero_le b1.1
  rw [he, show wrap64 (1 + (e : Int)) = ((1 + e : Nat) : Int) by rw [w64 (by omega) (by omega)]; omega]
  exact key (1 + e) k [] _ _ hb.1 (by simp) (by simp; omega) (by omega)

theorem drawMeanByWeights_ok {k : Nat} (hk : 2097152 ≤ k) {c : List Int} (hb : ∀ x ∈ c, 0 ≤ x ∧ x ≤ 255) (hl : c.length ≤ 4096) : Gv (spec_DrawMeanByWeights.f k c) fun r => r.1.length ≤ 1009 ∧ r.2.length ≤ 1009 := by
  have key : ∀ (cs : List Int), cs.length ≤ 1009 → ∀ (m : Nat), m ≤ 10 → ∀ (d i n : Nat) (out : List Int) (s : SrcT), Src s → out.length = m → m - i = d → i ≤ m → d < n → Gv (spec_DrawMeanByWeights.l0 k n s.1 s.2.1 s.2.2 cs out (m : Int) (i : Int)) fun r => r.1.length ≤ 1009 ∧ r.2.length ≤ 1009 := by
    intro cs hcs m hm d
    induction d with
    | zero =>
      intro i n out s S ho hd hi hn
      cases n with
      | zero => omega
      | succ n =>
        simp only [spec_DrawMeanByWeights.l0, spec_DrawMeanByWeights.s0]
        exact Gv.neg (by omega) (Gv.ok ⟨hcs, by simp only; omega⟩)
    | succ d ih =>
      intro i n out s S ho hd hi hn
      cases n with
      | zero => omega
      | succ n =>
        simp only [spec_DrawMeanByWeights.l0, spec_DrawMeanByWeights.s0]
        rw [w64n (by omega)]
        refine Gv.pos (by omega) (Gv.bind (next_ok S 6) fun a ha => Gv.ite (fun _ => Gv.ite (fun c => ?_) fun _ => ?_) fun _ => ?_)
        · have e : spec_l10Wait.f k cs i 0 = some (wt cs i 0) := spec_wait_f hk (by omega) (i : Int) (s := 0) (by omega)
          rw [e, Option.bind_some]
          refine Gv.ite (fun _ => Gv.pos (by omega) (Gv.pos (by omega) ?_)) fun _ => ?_
          · exact ih (i + 1) n _ _ ha.1 (by simp; omega) (by omega) (by omega) (by omega)
          · exact ih (i + 1) n _ _ ha.1 ho (by omega) (by omega) (by omega)
        · exact ih (i + 1) n _ _ ha.1 ho (by omega) (by omega) (by omega)
        · exact ih (i + 1) n _ _ ha.1 ho (by omega) (by omega) (by omega)
  unfold spec_DrawMeanByWeights.f spec_DrawMeanByWeights.g
  refine Gv.bind (from_ok hk hb hl) fun s S => Gv.bind (l10With_ok hk hb hl) fun t ht => Gv.bind (drawWeights_ok hk S (m := 5) (by omega) (by omega)) fun w hw => ?_
  exact key t.1 ht w.1.length hw.2 w.1.length 0 k w.1 w.2 hw.1 rfl (by omega) (by omega) (by omega)

/-! ### The law -/

theorem waitsOf_f {k : Nat} {cs : List Int} (hk : 2097152 ≤ k) (hl : cs.length ≤ 1048576) {i : Int} (h : wcode cs true [i] = 0) : impl_WaitsOf.f k cs i = some (wait cs i, 0) := by
  unfold impl_WaitsOf.f
  have ht : turnsW 8 cs = true := by
    unfold wcode at h
    by_cases c : turnsW 8 cs = true
    · exact c
    · rw [Bool.not_eq_true] at c
      rw [c, Bool.false_and] at h; cases h
  obtain ⟨_, _, h3, _⟩ := code_zero h
  have h3 := h3 i (by simp)
  rw [areTurnsW hk hl, Option.bind_some, if_pos ht, within_f, Option.bind_some, if_pos (decide_eq_true h3), impl_waits_f hk hl, Option.bind_some]

theorem tri_tdiv {w : Int} : Int.tdiv (w * (w - 1)) 2 = tri w := by
  unfold tri
  rw [Int.tdiv_eq_ediv_of_nonneg]
  by_cases c : 1 ≤ w
  · exact Int.mul_nonneg (by omega) (by omega)
  · exact Int.mul_nonneg_of_nonpos_of_nonpos (by omega) (by omega)

theorem tri_bnd {w : Int} (h0 : -240 ≤ w) (h1 : w ≤ 240) : 0 ≤ w * (w - 1) ∧ w * (w - 1) ≤ 60000 ∧ 0 ≤ tri w ∧ tri w ≤ 60000 := by
  have a : 0 ≤ w * (w - 1) := by
    by_cases c : 1 ≤ w
    · exact Int.mul_nonneg (by omega) (by omega)
    · exact Int.mul_nonneg_of_nonpos_of_nonpos (by omega) (by omega)
  have b : w * (w - 1) ≤ 60000 := by
    by_cases c : 1 ≤ w
    · have := Int.mul_le_mul (show w ≤ 240 by omega) (show w - 1 ≤ 240 by omega) (by omega) (by omega)
      omega
    · have := Int.mul_le_mul (show -w ≤ 240 by omega) (show -(w - 1) ≤ 241 by omega) (by omega) (by omega)
      rw [Int.neg_mul_neg] at this
      omega
  unfold tri
  omega

/-- The end of the law. -/
theorem waits_end {k : Nat} {cs : List Int} {i : Int} {r q : Int × Int × Int} (hk : 2097152 ≤ k) (hl : cs.length ≤ 1048576) (M : MeanR cs [i] (sumL cs i i cs.length 0) r) (q1 : q.2.2 = wcode cs true [i]) (q2 : wcode cs true [i] = 0 → (∀ s, s < cs.length → wt cs i s ≤ q.2.1) ∧ ∃ s, s < cs.length ∧ q.2.1 = wt cs i s) :
    (if r.2.2 = 0 then ((impl_WaitsOf.f k cs i).bind fun t24 => laws_FnWaits.l0 k k cs r.1 r.2.1 q.2.1 q.2.2 t24.1 t24.2 0 0) else (if r.1 = 0 then (some (decide (q.2.2 = r.2.2))) else (some false))) = some true := by
  by_cases h : wcode cs true [i] = 0
  · obtain ⟨⟨h1, h2⟩, _, _, h5⟩ := code_zero h
    have hi := h5 i (by simp)
    obtain ⟨g, g1, g2, g3⟩ := M.good h
    obtain ⟨w1, s0, w2, w3⟩ := q2 h
    have hs := sum_le hi hi h2
    have wb := wt_bnd (s := s0) hi w2
    have hq1 : q.2.2 = 0 := by rw [q1]; exact h
    rw [if_pos (by rw [M.code]; exact h), waitsOf_f hk hl h, Option.bind_some]
    have hwl := wait_len (cs := cs) i
    have hel := wait_el (cs := cs) (i := i) h2
    have hgs := gaps_sum hi
    have r0 : 0 ≤ r.1 := by
      by_cases c : 0 ≤ r.1
      · exact c
      · have := Int.mul_le_mul_of_nonneg_left (show r.1 ≤ -1 by omega) (show 0 ≤ g by omega); omega
    have r1 : r.1 ≤ g * r.1 := by have := Int.mul_le_mul_of_nonneg_right g1 r0; omega
    have v0 : 0 ≤ r.2.1 := by
      by_cases c : 0 ≤ r.2.1
      · exact c
      · have := Int.mul_le_mul_of_nonneg_left (show r.2.1 ≤ -1 by omega) (show 0 ≤ g by omega); omega
    have v1 : r.2.1 ≤ g * r.2.1 := by have := Int.mul_le_mul_of_nonneg_right g1 v0; omega
    have smax : ∀ (d s : Nat), s + d ≤ cs.length → sumL cs i i d s ≤ d * q.2.1 := by
      intro d
      induction d with
      | zero => intro s _; simp [sumL]
      | succ d ih =>
        intro s hsd
        have a1 := ih (s + 1) (by omega)
        have a2 := w1 s (by omega)
        simp only [sumL, maxV_self]
        push_cast
        rw [Int.add_mul, Int.one_mul]
        omega
    have key : ∀ (d j n : Nat) (a : Int), (wait cs i).length - j = d → j ≤ (wait cs i).length → d < n → 0 ≤ a → a ≤ j * 60000 → a + triL ((wait cs i).drop j) = sumL cs i i cs.length 0 → laws_FnWaits.l0 k n cs r.1 r.2.1 q.2.1 q.2.2 (wait cs i) 0 a j = some true := by
      intro d
      induction d with
      | zero =>
        intro j n a hd hj hn h0 ha hsum
        cases n with
        | zero => omega
        | succ n =>
          rw [List.drop_eq_nil_of_le (by omega)] at hsum
          have ea : a = sumL cs i i cs.length 0 := by simp only [triL] at hsum; omega
          have m0 := smax cs.length 0 (by omega)
          have e1 : 0 ≤ q.2.1 * r.2.1 := Int.mul_nonneg (by omega) v0
          have e2 : q.2.1 * r.2.1 ≤ 120 * 120 := Int.mul_le_mul (by omega) (by omega) v0 (by omega)
          have e3 : 0 ≤ r.1 * (cs.length : Int) := Int.mul_nonneg r0 (by omega)
          have e4 : r.1 * (cs.length : Int) ≤ 14400 * 120 := Int.mul_le_mul (by omega) (by omega) (by omega) (by omega)
          have e5 : sumL cs i i cs.length 0 * r.2.1 = r.1 * (cs.length : Int) := by
            rw [← g2, ← g3, Int.mul_comm g r.1, Int.mul_assoc]
          have e6 : r.1 ≤ q.2.1 * r.2.1 := by
            by_cases c : r.1 ≤ q.2.1 * r.2.1
            · exact c
            · exfalso
              have c1 : g * (q.2.1 * r.2.1 + 1) ≤ g * r.1 := Int.mul_le_mul_of_nonneg_left (by omega) (by omega)
              have c2 : g * (q.2.1 * r.2.1) = (cs.length : Int) * q.2.1 := by rw [← g3, Int.mul_comm q.2.1, ← Int.mul_assoc]
              rw [Int.mul_add, c2, Int.mul_one, g2] at c1
              omega
          simp only [laws_FnWaits.l0, laws_FnWaits.s0]
          rw [if_neg (by omega), if_pos hq1, w64 (x := q.2.1 * r.2.1) (by omega) (by omega), if_pos e6, if_pos trivial, ea, w64 (x := r.1 * (cs.length : Int)) (by omega) (by omega), e5, w64 (x := r.1 * (cs.length : Int)) (by omega) (by omega)]
          simp
      | succ d ih =>
        intro j n a hd hj hn h0 ha hsum
        cases n with
        | zero => omega
        | succ n =>
          rw [drop_cons (l := wait cs i) (i := j) (by omega)] at hsum
          have b := hel _ (rd_mem (l := wait cs i) (i := j) (by omega))
          obtain ⟨t1, t2, t3, t4⟩ := tri_bnd b.1 b.2
          simp only [laws_FnWaits.l0, laws_FnWaits.s0]
          rw [w64n (by omega), if_pos (by omega), if_pos (by omega), if_pos (by omega), if_pos (by omega), if_pos (by omega), w64 (x := rd (wait cs i) j - 1) (by omega) (by omega), w64 (x := rd (wait cs i) j * (rd (wait cs i) j - 1)) (by omega) (by omega), tri_tdiv, w64 (x := tri (rd (wait cs i) j)) (by omega) (by omega), w64 (by omega) (by omega)]
          exact ih (j + 1) n _ (by omega) (by omega) (by omega) (by omega) (by push_cast; omega) (by simp only [triL] at hsum; omega)
    exact key _ 0 k 0 rfl (by omega) (by omega) (by omega) (by omega) (by rw [List.drop_zero, Int.zero_add]; exact hgs.symm)
  · rw [if_neg (by rw [M.code]; exact h), if_pos (M.bad h), q1, M.code]
    simp

theorem law_FnWaits {k : Nat} {l : List Int} (hk : 2097152 ≤ k) (hb : ∀ x ∈ l, 0 ≤ x ∧ x ≤ 255) : laws_FnWaits.f k l = some true := by
  unfold laws_FnWaits.f laws_FnWaits.g laws_big.f
  rw [Option.bind_some]
  by_cases hbig : 4096 < (l.length : Int)
  · rw [if_pos (decide_eq_true hbig)]
  rw [if_neg (by simpa using hbig)]
  have hl : l.length ≤ 4096 := by omega
  obtain ⟨⟨cs, i⟩, e1, h1⟩ := l10With_ok hk hb hl
  obtain ⟨⟨ds, a, b, at_⟩, e2, h2⟩ := drawWaitForBoth_ok hk hb hl
  obtain ⟨⟨xs, j, m⟩, e3, h3⟩ := drawCountWithin_ok hk hb hl
  obtain ⟨⟨ys, ws⟩, e4, h4, h5⟩ := drawMeanByWeights_ok hk hb hl
  obtain ⟨⟨zs, t, from_⟩, e5, h6⟩ := drawWaitFrom_ok hk hb hl
  simp only at h1 h2 h3 h4 h5 h6
  obtain ⟨r1, a1, a2, M1⟩ := meanWait_both (k := k) (cs := cs) hk (by omega) i
  obtain ⟨r2, b1, b2, b3, b4⟩ := worst_both (k := k) (cs := cs) hk (by omega) i
  obtain ⟨r3, c1, c2, M3⟩ := meanBoth_both (k := k) (cs := ds) hk (by omega) a b
  obtain ⟨r4, d1, d2, d3⟩ := count_both (k := k) (cs := xs) hk (by omega) j m
  obtain ⟨r5, f1, f2⟩ := byWeights_both (k := k) (cs := ys) (ws := ws) hk (by omega) (by omega)
  obtain ⟨r6, g1, g2, g3, g4⟩ := worst_both (k := k) (cs := xs) hk (by omega) j
  have fin := waits_end (k := k) (cs := cs) hk (by omega) M1 b3 b4
  -- both waits, and the rest
  have both : (if (bothR ds a b at_).2 = 0 then ((impl_WaitFrom.f k ds a at_).bind fun t22 => (impl_WaitFrom.f k ds b at_).bind fun t23 => if t22.2 = 0 then (if t23.2 = 0 then (if (bothR ds a b at_).1 = (maxV t22.1 t23.1) then (if r3.2.2 = 0 then (if r1.2.2 = 0 then ((impl_WaitsOf.f k cs i).bind fun t24 => laws_FnWaits.l0 k k cs r1.1 r1.2.1 r2.2.1 r2.2.2 t24.1 t24.2 0 0) else (if r1.1 = 0 then (some (decide (r2.2.2 = r1.2.2))) else (some false))) else (some false)) else (some false)) else (some false)) else (some false)) else (if r1.2.2 = 0 then ((impl_WaitsOf.f k cs i).bind fun t25 => laws_FnWaits.l0 k k cs r1.1 r1.2.1 r2.2.1 r2.2.2 t25.1 t25.2 0 0) else (if r1.1 = 0 then (some (decide (r2.2.2 = r1.2.2))) else (some false)))) = some true := by
    by_cases c : wcode ds (slotB ds at_) [a, b] = 0
    · obtain ⟨p1, p2, p3, p4⟩ := code_zero c
      have eb : bothR ds a b at_ = (maxV (wt ds a at_.toNat) (wt ds b at_.toNat), 0) := by unfold bothR; rw [if_pos c]
      have one : ∀ x, x ∈ [a, b] → wcode ds (slotB ds at_) [x] = 0 := by
        intro x hx
        have t8 : turnsW 8 ds = true := by
          unfold wcode at c
          by_cases c' : turnsW 8 ds = true
          · exact c'
          · rw [Bool.not_eq_true] at c'
            rw [c', Bool.false_and] at c; cases c
        unfold wcode
        rw [t8, p2, List.all_cons, List.all_nil, show task8 x = true from decide_eq_true (p3 x hx), List.all_cons, List.all_nil, show memB ds x = true from decide_eq_true (p4 x hx)]
        rfl
      have ef : ∀ x, x ∈ [a, b] → fromR ds x at_ = (wt ds x at_.toNat, 0) := fun x hx => by unfold fromR; rw [if_pos (one x hx)]
      have e3 : r3.2.2 = 0 := by
        rw [M3.code, ← c, p2]
      rw [eb, impl_WaitFrom_f hk (by omega), Option.bind_some, impl_WaitFrom_f hk (by omega), Option.bind_some, ef a (by simp), ef b (by simp)]
      simp only [if_true]
      rw [if_pos e3]
      exact fin
    · have eb : (bothR ds a b at_).2 ≠ 0 := by unfold bothR; rw [if_neg c]; exact c
      rw [if_neg eb]
      exact fin
  -- counts
  have cnt : (if r4.2 = 0 then ((impl_WorstSlot.f k xs j).bind fun t21 => if t21.2.2 = 0 then (if (decide (r4.1 = (xs.length : Int))) = (decide (t21.2.1 ≤ m)) then (if (bothR ds a b at_).2 = 0 then ((impl_WaitFrom.f k ds a at_).bind fun t22 => (impl_WaitFrom.f k ds b at_).bind fun t23 => if t22.2 = 0 then (if t23.2 = 0 then (if (bothR ds a b at_).1 = (maxV t22.1 t23.1) then (if r3.2.2 = 0 then (if r1.2.2 = 0 then ((impl_WaitsOf.f k cs i).bind fun t24 => laws_FnWaits.l0 k k cs r1.1 r1.2.1 r2.2.1 r2.2.2 t24.1 t24.2 0 0) else (if r1.1 = 0 then (some (decide (r2.2.2 = r1.2.2))) else (some false))) else (some false)) else (some false)) else (some false)) else (some false)) else (if r1.2.2 = 0 then ((impl_WaitsOf.f k cs i).bind fun t25 => laws_FnWaits.l0 k k cs r1.1 r1.2.1 r2.2.1 r2.2.2 t25.1 t25.2 0 0) else (if r1.1 = 0 then (some (decide (r2.2.2 = r1.2.2))) else (some false)))) else (some false)) else (some false)) else (if (bothR ds a b at_).2 = 0 then ((impl_WaitFrom.f k ds a at_).bind fun t22 => (impl_WaitFrom.f k ds b at_).bind fun t23 => if t22.2 = 0 then (if t23.2 = 0 then (if (bothR ds a b at_).1 = (maxV t22.1 t23.1) then (if r3.2.2 = 0 then (if r1.2.2 = 0 then ((impl_WaitsOf.f k cs i).bind fun t24 => laws_FnWaits.l0 k k cs r1.1 r1.2.1 r2.2.1 r2.2.2 t24.1 t24.2 0 0) else (if r1.1 = 0 then (some (decide (r2.2.2 = r1.2.2))) else (some false))) else (some false)) else (some false)) else (some false)) else (some false)) else (if r1.2.2 = 0 then ((impl_WaitsOf.f k cs i).bind fun t25 => laws_FnWaits.l0 k k cs r1.1 r1.2.1 r2.2.1 r2.2.2 t25.1 t25.2 0 0) else (if r1.1 = 0 then (some (decide (r2.2.2 = r1.2.2))) else (some false))))) = some true := by
    by_cases c : r4.2 = 0
    · obtain ⟨c', hc⟩ := d3 c
      obtain ⟨q1, s, q2, q3⟩ := g4 c'
      have hcode : r6.2.2 = 0 := by rw [g3]; exact c'
      have hcnt := (cntL_bnd xs j m xs.length 0).2.2
      have hd : decide (r4.1 = (xs.length : Int)) = decide (r6.2.1 ≤ m) := by
        rw [decide_eq_decide, hc, hcnt]
        constructor
        · intro h; rw [q3]; exact h s (by omega) (by omega)
        · intro h u _ hu; have := q1 u (by omega); omega
      rw [if_pos c, g1, Option.bind_some, if_pos hcode, if_pos hd]
      exact both
    · rw [if_neg c]; exact both
  unfold spec_DrawMeanWait.f
  simp only [e1, e2, e3, e4, e5, a1, a2, b1, b2, c1, c2, d1, d2, f1, f2, Option.bind_some, if_true]
  rw [impl_WaitForBoth_f hk (by omega), spec_WaitForBoth_f hk (by omega)]
  simp only [Option.bind_some, if_true]
  rw [impl_WaitFrom_f (cs := zs) hk (by omega), spec_WaitFrom_f (cs := zs) hk (by omega)]
  simp only [Option.bind_some, if_true]
  by_cases c : wcode zs (slotB zs from_) [t] = 0
  · obtain ⟨n, rfl, hn⟩ := from_slot c
    obtain ⟨⟨p1, p1'⟩, p2, p3, p4⟩ := code_zero c
    have ef : fromR zs t n = (wt zs t n, 0) := by unfold fromR; rw [if_pos c, Int.toNat_natCast]
    obtain ⟨u, u1, u2, u3, _⟩ := wt_hit (p4 t (by simp)) hn
    have um := Nat.mod_lt (n + u) (show 0 < zs.length by omega)
    rw [ef]
    simp only [if_true]
    rw [u1, if_neg (by omega), show wrap64 ((n : Int) + u) = ((n + u : Nat) : Int) by rw [w64 (by omega) (by omega)]; omega, tmod_nat, if_pos (by omega), if_pos (by omega), if_pos u3]
    exact cnt
  · have ef : (fromR zs t from_).2 ≠ 0 := by unfold fromR; rw [if_neg c]; exact c
    rw [if_neg ef]
    exact cnt

end Go.Proofs.Ytmgdobiloapelaa.Vf
