/- Means by weights, draws, and the law on waits. -/
import Derived.Test.YtmgdobiloapelaaQWtB
set_option linter.unusedVariables false
set_option linter.unusedSimpArgs false
namespace Go.Proofs.Ytmgdobiloapelaa.Vf
open Go Go.V Go.RowKit

/-! ### Weights -/

def tot : List Int → Int
  | [] => 0
  | w :: ws => w + tot ws
def w100 (w : Int) : Bool := decide (0 ≤ w ∧ w ≤ 100)
def weightsB (ws : List Int) : Bool := decide (1 ≤ ws.length ∧ ws.length ≤ 8) && (ws.all w100 && decide (0 < tot ws))

theorem tot_bnd : ∀ {ws : List Int}, ws.all w100 = true → 0 ≤ tot ws ∧ tot ws ≤ ws.length * 100
  | [], _ => by simp [tot]
  | w :: ws, h => by
    rw [List.all_cons, Bool.and_eq_true] at h
    have h1 := of_decide_eq_true h.1
    have h2 := tot_bnd h.2
    simp only [tot, List.length_cons]
    push_cast
    omega

theorem areAll_w {k : Nat} {l : List Int} (hk : 2097152 ≤ k) (hl : l.length ≤ 1048576) : impl_areAll_int64_impl_areWeights_1.f k l () = some (l.all w100) := by
  obtain ⟨j, h1, h2⟩ := idx_run (L := slices_IndexFunc_int64_int64_impl_areAll_int64_1_impl_areWeights_1.l0 k) (p := fun x => !w100 x) (l := l) (c := ())
    (fun n i hi => by
      simp only [slices_IndexFunc_int64_int64_impl_areAll_int64_1_impl_areWeights_1.l0, slices_IndexFunc_int64_int64_impl_areAll_int64_1_impl_areWeights_1.s0]
      rw [if_pos (by omega), if_pos (by omega), if_pos (by omega)]
      simp only [impl_areAll_int64_1_impl_areWeights_1.f, impl_areWeights_1.f, within_f, Option.bind_some, w64n (show i ≤ 9223372036854775806 by omega)]
      unfold w100
      cases decide (0 ≤ rd l i ∧ rd l i ≤ 100) <;> simp)
    (fun n => by
      simp only [slices_IndexFunc_int64_int64_impl_areAll_int64_1_impl_areWeights_1.l0, slices_IndexFunc_int64_int64_impl_areAll_int64_1_impl_areWeights_1.s0]
      rw [if_neg (by omega)]) l.length 0 k (by omega) (by omega) (by omega)
  unfold impl_areAll_int64_impl_areWeights_1.f slices_ContainsFunc_int64_int64_impl_areAll_int64_1_impl_areWeights_1.f slices_IndexFunc_int64_int64_impl_areAll_int64_1_impl_areWeights_1.f slices_IndexFunc_int64_int64_impl_areAll_int64_1_impl_areWeights_1.g
  rw [show slices_IndexFunc_int64_int64_impl_areAll_int64_1_impl_areWeights_1.l0 k k l () l.length 0 = some j from h1, Option.bind_some, Option.bind_some]
  rw [List.drop_zero] at h2
  congr 1
  exact all_iff (p := fun x => !w100 x) (fun _ => rfl) h2

theorem total_f {k : Nat} {ws : List Int} (hk : 2097152 ≤ k) (hl : ws.length ≤ 1048576) (h : ws.all w100 = true) : impl_total.f k ws = some (tot ws) := by
  have key : ∀ (d i n : Nat) (a : Int), ws.length - i = d → i ≤ ws.length → d < n → 0 ≤ a → a ≤ i * 100 → (ws.drop i).all w100 = true → impl_total.l0 k n a ws ws.length i = some (a + tot (ws.drop i)) := by
    intro d
    induction d with
    | zero =>
      intro i n a hd hi hn h0 h1 hw
      cases n with
      | zero => omega
      | succ n =>
        simp only [impl_total.l0, impl_total.s0]
        rw [if_neg (by omega), List.drop_eq_nil_of_le (by omega)]; simp [tot]
    | succ d ih =>
      intro i n a hd hi hn h0 h1 hw
      cases n with
      | zero => omega
      | succ n =>
        rw [drop_cons (by omega), List.all_cons, Bool.and_eq_true] at hw
        have b : 0 ≤ rd ws i ∧ rd ws i ≤ 100 := of_decide_eq_true hw.1
        simp only [impl_total.l0, impl_total.s0]
        rw [w64n (by omega), if_pos (by omega), if_pos (by omega), if_pos (by omega), w64 (by omega) (by omega), ih (i + 1) n _ (by omega) (by omega) (by omega) (by omega) (by push_cast; omega) hw.2, drop_cons (l := ws) (i := i) (by omega)]
        simp only [tot]
        congr 1; omega
  unfold impl_total.f impl_total.g
  have := key ws.length 0 k 0 (by omega) (by omega) (by omega) (by omega) (by omega) (by rw [List.drop_zero]; exact h)
  rw [Int.zero_add, List.drop_zero] at this
  exact this

theorem impl_weights_f {k : Nat} {ws : List Int} (hk : 2097152 ≤ k) (hl : ws.length ≤ 1048576) : impl_areWeights.f k ws = some (weightsB ws) := by
  unfold impl_areWeights.f impl_isMany.f weightsB
  rw [length_f, Option.bind_some, within_f, Option.bind_some, Option.bind_some]
  by_cases c : 1 ≤ ws.length ∧ ws.length ≤ 8
  · rw [if_pos (decide_eq_true (by omega)), decide_eq_true c, Bool.true_and, areAll_w hk hl, Option.bind_some]
    by_cases c2 : ws.all w100 = true
    · rw [if_pos c2, total_f hk hl c2, Option.bind_some, c2, Bool.true_and]
    · rw [if_neg c2]
      rw [Bool.not_eq_true] at c2
      rw [c2, Bool.false_and]
  · rw [if_neg (by rw [decide_eq_true_eq]; omega), decide_eq_false c, Bool.false_and]

theorem spec_weights_f {k : Nat} {ws : List Int} (hk : 2097152 ≤ k) (hl : ws.length ≤ 1048576) : spec_l10Weights.f k ws 0 8 = some (weightsB ws) := by
  have key : ∀ (d i n : Nat) (a : Int), ws.length - i = d → i ≤ ws.length → d < n → 0 ≤ a → a ≤ i * 100 → spec_l10Weights.l0 k n ws 0 8 a i = some (if (ws.drop i).all w100 = true then (if 0 < a + tot (ws.drop i) then decide ((ws.length : Int) ≤ 8) else false) else false) := by
    intro d
    induction d with
    | zero =>
      intro i n a hd hi hn h0 h1
      cases n with
      | zero => omega
      | succ n =>
        simp only [spec_l10Weights.l0, spec_l10Weights.s0]
        rw [if_neg (by omega), List.drop_eq_nil_of_le (by omega), List.all_nil, if_pos rfl]
        simp only [tot, Int.add_zero]
        split <;> rfl
    | succ d ih =>
      intro i n a hd hi hn h0 h1
      cases n with
      | zero => omega
      | succ n =>
        simp only [spec_l10Weights.l0, spec_l10Weights.s0]
        rw [if_pos (by omega), if_pos (by omega), if_pos (by omega), l01In_f, Option.bind_some, drop_cons (l := ws) (i := i) (by omega), List.all_cons]
        by_cases c : 0 ≤ rd ws i ∧ rd ws i ≤ 100
        · rw [if_pos (decide_eq_true c), if_pos (by omega), if_pos (by omega), w64n (by omega), w64 (x := a + rd ws i) (by omega) (by omega), ih (i + 1) n _ (by omega) (by omega) (by omega) (by omega) (by push_cast; omega)]
          rw [show w100 (rd ws i) = true from decide_eq_true c, Bool.true_and]
          simp only [tot, Int.add_assoc]
          rfl
        · rw [if_neg (by simpa using c), show w100 (rd ws i) = false from decide_eq_false c, Bool.false_and]; rfl
  unfold spec_l10Weights.f spec_l10Weights.g weightsB
  have := key ws.length 0 k 0 (by omega) (by omega) (by omega) (by omega) (by omega)
  rw [List.drop_zero, Int.zero_add] at this
  refine this.trans ?_
  congr 1
  by_cases c : ws.all w100 = true
  · rw [if_pos c, c, Bool.true_and]
    by_cases c2 : 0 < tot ws
    · rw [if_pos c2, decide_eq_true c2, Bool.and_true, decide_eq_decide]
      have : 1 ≤ ws.length := by
        cases ws with
        | nil => exact absurd c2 (by decide)
        | cons a l => simp
      omega
    · rw [if_neg c2, decide_eq_false c2, Bool.and_false]
  · rw [if_neg c]
    rw [Bool.not_eq_true] at c
    rw [c, Bool.false_and, Bool.and_false]

def hasL (cs : List Int) : List Int → Nat → Bool
  | [], _ => true
  | w :: ws, j => (if 0 < w then memB cs j else true) && hasL cs ws (j + 1)
def wsumL (cs : List Int) : List Int → Nat → Int
  | [], _ => 0
  | w :: ws, j => (if 0 < w then w * sumL cs j j cs.length 0 else 0) + wsumL cs ws (j + 1)

theorem hasL_step {cs : List Int} {w : Int} {ws : List Int} {j : Nat} (h : hasL cs (w :: ws) j = true) : (0 < w → (j : Int) ∈ cs) ∧ hasL cs ws (j + 1) = true := by
  simp only [hasL, Bool.and_eq_true] at h
  refine ⟨fun c => ?_, h.2⟩
  rw [if_pos c] at h
  exact of_decide_eq_true h.1

theorem term_bnd {cs : List Int} {w : Int} {j : Int} (hj : j ∈ cs) (hl : cs.length ≤ 120) (h0 : 0 ≤ w) (h1 : w ≤ 100) : 0 ≤ w * sumL cs j j cs.length 0 ∧ w * sumL cs j j cs.length 0 ≤ 1440000 := by
  have b := sum_le hj hj hl
  have a1 := Int.mul_nonneg h0 b.1
  have a2 := Int.mul_le_mul h1 b.2 b.1 (by omega)
  omega

theorem wsum_bnd {cs : List Int} (hl : cs.length ≤ 120) : ∀ {ws : List Int} {j : Nat}, ws.all w100 = true → hasL cs ws j = true → 0 ≤ wsumL cs ws j ∧ wsumL cs ws j ≤ ws.length * 1440000
  | [], j, _, _ => by simp [wsumL]
  | w :: ws, j, h, h2 => by
    rw [List.all_cons, Bool.and_eq_true] at h
    have b := of_decide_eq_true h.1
    obtain ⟨m1, m2⟩ := hasL_step h2
    have ih := wsum_bnd hl h.2 m2
    simp only [wsumL, List.length_cons]
    by_cases c : 0 < w
    · have := term_bnd (m1 c) hl b.1 b.2
      rw [if_pos c]; push_cast; omega
    · rw [if_neg c]; push_cast; omega

theorem impl_weighted_f {k : Nat} {cs ws : List Int} (hk : 2097152 ≤ k) (hc : cs.length ≤ 120) (hl : ws.length ≤ 8) (hw : ws.all w100 = true) (hh : hasL cs ws 0 = true) : impl_weighted.f k cs ws = some (wsumL cs ws 0) := by
  have key : ∀ (d i n : Nat) (a : Int), ws.length - i = d → i ≤ ws.length → d < n → 0 ≤ a → a ≤ i * 1440000 → (ws.drop i).all w100 = true → hasL cs (ws.drop i) i = true → impl_weighted.l0 k n cs a ws ws.length i = some (a + wsumL cs (ws.drop i) i) := by
    intro d
    induction d with
    | zero =>
      intro i n a hd hi hn h0 h1 hw hh
      cases n with
      | zero => omega
      | succ n =>
        simp only [impl_weighted.l0, impl_weighted.s0]
        rw [if_neg (by omega), List.drop_eq_nil_of_le (by omega)]; simp [wsumL]
    | succ d ih =>
      intro i n a hd hi hn h0 h1 hw hh
      cases n with
      | zero => omega
      | succ n =>
        rw [drop_cons (by omega)] at hw hh
        rw [List.all_cons, Bool.and_eq_true] at hw
        have b : 0 ≤ rd ws i ∧ rd ws i ≤ 100 := of_decide_eq_true hw.1
        obtain ⟨m1, m2⟩ := hasL_step hh
        simp only [impl_weighted.l0, impl_weighted.s0]
        rw [w64n (by omega), if_pos (by omega), if_pos (by omega), if_pos (by omega), drop_cons (l := ws) (i := i) (by omega)]
        simp only [wsumL]
        by_cases c : 0 < rd ws i
        · have tb := term_bnd (m1 c) hc b.1 b.2
          rw [if_pos c, if_pos c, impl_sum_f hk (m1 c) hc, Option.bind_some, w64 (x := rd ws i * _) (by omega) (by omega), w64 (by omega) (by omega), ih (i + 1) n _ (by omega) (by omega) (by omega) (by omega) (by push_cast; omega) hw.2 m2]
          congr 1; omega
        · rw [if_neg c, if_neg c, ih (i + 1) n _ (by omega) (by omega) (by omega) (by omega) (by push_cast; omega) hw.2 m2]
          congr 1; omega
  unfold impl_weighted.f impl_weighted.g
  have := key ws.length 0 k 0 (by omega) (by omega) (by omega) (by omega) (by omega) (by rw [List.drop_zero]; exact hw) (by rw [List.drop_zero]; exact hh)
  rw [Int.zero_add, List.drop_zero] at this
  exact this

theorem spec_mean_f {k : Nat} {cs ws : List Int} (hk : 2097152 ≤ k) (hc : cs.length ≤ 120) (hl : ws.length ≤ 8) (hw : ws.all w100 = true) (hh : hasL cs ws 0 = true) : spec_l10Mean.f k cs ws = some (wsumL cs ws 0) := by
  have key : ∀ (d i n : Nat) (a : Int), ws.length - i = d → i ≤ ws.length → d < n → 0 ≤ a → a ≤ i * 1440000 → (ws.drop i).all w100 = true → hasL cs (ws.drop i) i = true → spec_l10Mean.l0 k n cs ws a i = some (a + wsumL cs (ws.drop i) i) := by
    intro d
    induction d with
    | zero =>
      intro i n a hd hi hn h0 h1 hw hh
      cases n with
      | zero => omega
      | succ n =>
        simp only [spec_l10Mean.l0, spec_l10Mean.s0]
        rw [if_neg (by omega), List.drop_eq_nil_of_le (by omega)]; simp [wsumL]
    | succ d ih =>
      intro i n a hd hi hn h0 h1 hw hh
      cases n with
      | zero => omega
      | succ n =>
        rw [drop_cons (by omega)] at hw hh
        rw [List.all_cons, Bool.and_eq_true] at hw
        have b : 0 ≤ rd ws i ∧ rd ws i ≤ 100 := of_decide_eq_true hw.1
        obtain ⟨m1, m2⟩ := hasL_step hh
        simp only [spec_l10Mean.l0, spec_l10Mean.s0]
        rw [w64n (by omega), if_pos (by omega), if_pos (by omega), if_pos (by omega), drop_cons (l := ws) (i := i) (by omega)]
        simp only [wsumL]
        by_cases c : 0 < rd ws i
        · have tb := term_bnd (m1 c) hc b.1 b.2
          rw [if_pos c, if_pos c, if_pos (by omega), if_pos (by omega), spec_sum_f hk (m1 c) (m1 c) hc, Option.bind_some, w64 (x := rd ws i * _) (by omega) (by omega), w64 (by omega) (by omega), ih (i + 1) n _ (by omega) (by omega) (by omega) (by omega) (by push_cast; omega) hw.2 m2]
          congr 1; omega
        · rw [if_neg c, if_neg c, ih (i + 1) n _ (by omega) (by omega) (by omega) (by omega) (by push_cast; omega) hw.2 m2]
          congr 1; omega
  unfold spec_l10Mean.f spec_l10Mean.g
  have := key ws.length 0 k 0 (by omega) (by omega) (by omega) (by omega) (by omega) (by rw [List.drop_zero]; exact hw) (by rw [List.drop_zero]; exact hh)
  rw [Int.zero_add, List.drop_zero] at this
  exact this

theorem byW_stop {k : Nat} {cs ws : List Int} (hk : 2097152 ≤ k) (hl : cs.length ≤ 1048576) (hlw : ws.length ≤ 1048576) (hcl : 1 ≤ cs.length ∧ cs.length ≤ 120) (h3 : 1 ≤ ws.length ∧ ws.length ≤ 8) (h4 : ws.all w100 = true) (h5 : 0 < tot ws) : hasL cs ws 0 = true → (impl_weighted.f k cs ws).bind (fun t4 => (impl_length_int64.f cs).bind fun t5 => (impl_total.f k ws).bind fun t6 => (impl_fraction.f k t4 (wrap64 (t5 * t6))).bind fun t7 => some (t7.1, t7.2.1, t7.2.2)) = (spec_l10Mean.f k cs ws).bind (fun t4 => (spec_l01Lowest.f k t4 (wrap64 (tot ws * (cs.length : Int)))).bind fun t5 => some (t5.1, t5.2, 0)) ∧ ∃ r, (impl_weighted.f k cs ws).bind (fun t4 => (impl_length_int64.f cs).bind fun t5 => (impl_total.f k ws).bind fun t6 => (impl_fraction.f k t4 (wrap64 (t5 * t6))).bind fun t7 => some (t7.1, t7.2.1, t7.2.2)) = some r := by
  intro hh
  have htot := tot_bnd h4
  have wb := wsum_bnd hcl.2 h4 hh
  have p1 : 0 ≤ (cs.length : Int) * tot ws := Int.mul_nonneg (by omega) (by omega)
  have p2 : (cs.length : Int) * tot ws ≤ 120 * 800 := Int.mul_le_mul (by omega) (by omega) (by omega) (by omega)
  have p3 : 1 ≤ (cs.length : Int) * tot ws := by
    have := Int.mul_le_mul (show (1 : Int) ≤ cs.length by omega) (show 1 ≤ tot ws by omega) (by omega) (by omega)
    omega
  obtain ⟨m, hm⟩ := Int.eq_ofNat_of_zero_le p1
  obtain ⟨t, w, g, g1, g2, g3, e1, e2⟩ := fraction_ok (k := k) hk (a := wsumL cs ws 0) (b := m) wb.1 (by omega) (by omega) (by omega)
  rw [impl_weighted_f hk hcl.2 h3.2 h4 hh, Option.bind_some, length_f, Option.bind_some, total_f hk hlw h4, Option.bind_some, spec_mean_f hk hcl.2 h3.2 h4 hh, Option.bind_some, Int.mul_comm (tot ws), w64 (by omega) (by omega), hm, e1, Option.bind_some, e2, Option.bind_some]
  exact ⟨rfl, _, rfl⟩

/-! ### Waits, slot by slot and gap by gap -/

def tri (w : Int) : Int := w * (w - 1) / 2
theorem tri_succ (w : Int) : tri (w + 1) = tri w + w := by
  unfold tri
  have e : (w + 1) * (w + 1 - 1) = w * (w - 1) + w * 2 := by
    rw [show w + 1 - 1 = w by omega, Int.add_mul, Int.mul_sub, Int.one_mul, Int.mul_one, Int.mul_comm w 2, Int.two_mul]; omega
  rw [e, Int.add_mul_ediv_right _ _ (by omega)]

def triL : List Int → Int
  | [] => 0
  | w :: ws => tri w + triL ws
theorem triL_app : ∀ (l : List Int) (x : Int), triL (l ++ [x]) = triL l + tri x
  | [], x => by simp [triL]
  | a :: l, x => by
    show tri a + triL (l ++ [x]) = tri a + triL l + tri x
    rw [triL_app l x]; omega

/-- The sum of the waits ahead of a slot. -/
def preS (cs : List Int) (i : Int) : Nat → Int
  | 0 => 0
  | m + 1 => preS cs i m + wt cs i m

theorem preS_sum {cs : List Int} {i : Int} : ∀ (d s : Nat), preS cs i s + sumL cs i i d s = preS cs i (s + d)
  | 0, s => by simp [sumL]
  | d + 1, s => by
    simp only [sumL, maxV_self]
    have := preS_sum (cs := cs) (i := i) d (s + 1)
    rw [show s + (d + 1) = s + 1 + d by omega, ← this]
    simp only [preS]; omega

/-- What is waited at a slot, the first one behind the last. -/
def wtE (cs : List Int) (i : Int) (m : Nat) : Int := wt cs i (m % cs.length)

theorem gaps_pre {cs : List Int} {i : Int} (hi : i ∈ cs) : ∀ (m : Nat), m ≤ cs.length →
    (places cs i m = [] ∧ preS cs i m = tri (m + wtE cs i m + 1) - tri (wtE cs i m + 1) ∧ wt cs i 0 = m + wtE cs i m) ∨
    (∃ f Q, places cs i m = f :: Q ∧ wt cs i 0 = f ∧ preS cs i m = tri (f + 1) + triL (dif f Q) + tri (m - lastA f Q + wtE cs i m) - tri (wtE cs i m + 1)) := by
  have hn : 1 ≤ cs.length := by
    cases cs with
    | nil => cases hi
    | cons a l => simp
  intro m
  induction m with
  | zero =>
    intro _
    left
    have e : wtE cs i 0 = wt cs i 0 := by unfold wtE; rw [Nat.zero_mod]
    refine ⟨rfl, ?_, ?_⟩
    · simp only [preS]
      rw [show ((0 : Nat) : Int) + wtE cs i 0 + 1 = wtE cs i 0 + 1 by omega]; omega
    · rw [e]; omega
  | succ m ih =>
    intro hm
    have hs : m < cs.length := by omega
    have e0 : wtE cs i m = wt cs i m := by unfold wtE; rw [Nat.mod_eq_of_lt hs]
    have en : wt cs i m = if rd cs m = i then 0 else wtE cs i (m + 1) + 1 := wt_next hi hs
    have t1 : tri 1 = 0 := by decide
    have hpre : preS cs i (m + 1) = preS cs i m + wt cs i m := rfl
    by_cases c : rd cs m = i
    · have hp : places cs i (m + 1) = places cs i m ++ [(m : Int)] := if_pos c
      rw [if_pos c] at en
      right
      rcases ih (by omega) with ⟨h1, h2, h3⟩ | ⟨f, Q, h1, h2, h3⟩
      · rw [e0, en] at h2 h3
        refine ⟨m, [], by rw [hp, h1]; rfl, by rw [h3]; omega, ?_⟩
        simp only [dif, triL, lastA]
        rw [hpre, h2, en, show ((m + 1 : Nat) : Int) - m + wtE cs i (m + 1) = wtE cs i (m + 1) + 1 by push_cast; omega, show (m : Int) + 0 + 1 = m + 1 by omega, Int.zero_add, t1]; omega
      · rw [e0, en, Int.add_zero] at h3
        refine ⟨f, Q ++ [(m : Int)], by rw [hp, h1]; rfl, h2, ?_⟩
        rw [dif_app, lastA_app, triL_app, hpre, h3, en, show ((m + 1 : Nat) : Int) - m + wtE cs i (m + 1) = wtE cs i (m + 1) + 1 by push_cast; omega, Int.zero_add, t1, Int.add_zero]; omega
    · have hp : places cs i (m + 1) = places cs i m := if_neg c
      rw [if_neg c] at en
      have ts : tri (wtE cs i (m + 1) + 1 + 1) = tri (wtE cs i (m + 1) + 1) + (wtE cs i (m + 1) + 1) := tri_succ _
      rcases ih (by omega) with ⟨h1, h2, h3⟩ | ⟨f, Q, h1, h2, h3⟩
      · left
        rw [e0, en] at h2 h3
        refine ⟨by rw [hp, h1], ?_, by rw [h3]; push_cast; omega⟩
        rw [hpre, h2, en, ts, show (m : Int) + (wtE cs i (m + 1) + 1) + 1 = ((m + 1 : Nat) : Int) + wtE cs i (m + 1) + 1 by push_cast; omega]; omega
      · right
        rw [e0, en] at h3
        refine ⟨f, Q, by rw [hp, h1], h2, ?_⟩
        rw [hpre, h3, en, ts, show (m : Int) - lastA f Q + (wtE cs i (m + 1) + 1) = ((m + 1 : Nat) : Int) - lastA f Q + wtE cs i (m + 1) by push_cast; omega]; omega

/-- The waits at all slots, summed up by the waits between turns. -/
theorem gaps_sum {cs : List Int} {i : Int} (hi : i ∈ cs) : sumL cs i i cs.length 0 = triL (wait cs i) := by
  have h0 := preS_sum (cs := cs) (i := i) cs.length 0
  rw [Nat.zero_add] at h0
  have hz : preS cs i 0 = 0 := rfl
  rw [hz, Int.zero_add] at h0
  have e : wtE cs i cs.length = wt cs i 0 := by unfold wtE; rw [Nat.mod_self]
  rw [h0]
  unfold wait
  rcases gaps_pre hi cs.length (Nat.le_refl _) with ⟨h1, h2, h3⟩ | ⟨f, Q, h1, h2, h3⟩
  · rw [e] at h3
    have hn : 1 ≤ cs.length := by
      cases cs with
      | nil => cases hi
      | cons a l => simp
    omega
  · rw [e, h2] at h3
    rw [h1, h3]
    show _ = triL (dif f Q ++ [(cs.length : Int) - lastA f Q + f])
    rw [triL_app]; omega

theorem wait_el {cs : List Int} {i : Int} (hl : cs.length ≤ 120) : ∀ x ∈ wait cs i, -240 ≤ x ∧ x ≤ 240 := by
  have hb := places_bnd cs i cs.length
  intro x hx
  obtain ⟨j, hj, e⟩ := List.getElem_of_mem hx
  have hj' : j < (places cs i cs.length).length := by
    have := wts_len (cs.length : Int) (places cs i cs.length)
    unfold wait at hj; omega
  have hr := wts_rd (cs.length : Int) (P := places cs i cs.length) (j := j) hj'
  have hx' : rd (wts cs.length (places cs i cs.length)) j = x := by rw [rd_lt (by unfold wait at hj; exact hj)]; exact e
  rw [hx'] at hr
  have b1 := hb _ (rd_mem (l := places cs i cs.length) (i := j) hj')
  have b2 := hb _ (rd_mem (l := places cs i cs.length) (i := 0) (by omega))
  split at hr
  · rename_i c
    have b3 := hb _ (rd_mem (l := places cs i cs.length) (i := j + 1) c)
    omega
  · omega

/-! ### Draws -/

theorem drawWeights_ok {k : Nat} (hk : 2097152 ≤ k) {s : SrcT} (S : Src s) {m : Nat} (h1 : 1 ≤ m) (h2 : m ≤ 8) : Gv (spec_l10DrawWeights.f k s (m : Int)) fun r => Src r.2 ∧ r.1.length ≤ 10 := by
  have key : ∀ (d n : Nat) (out : List Int) (x : Int) (s : SrcT), Src s → 1 ≤ out.length + d → out.length + d ≤ 8 → d < n → Gv (spec_l10DrawWeights.l0 k n s.1 s.2.1 s.2.2 out x (d : Int)) fun r => Src r.2 ∧ r.1.length ≤ 10 := by
    intro d
    induction d with
    | zero =>
      intro n out x s S g1 g2 hn
      cases n with
      | zero => omega
      | succ n =>
        simp only [spec_l10DrawWeights.l0, spec_l10DrawWeights.s0]
        refine Gv.neg (by omega) (Gv.bind (next_ok S 24) fun a ha => Gv.ite (fun _ => ?_) fun _ => Gv.ite (fun _ => ?_) fun _ => Gv.ok ⟨ha.1, by simp only; omega⟩)
        · exact Gv.bind (pick_ok ha.1 _ (by simp)) fun b hb => Gv.pos (by omega) (Gv.ok ⟨hb.1, by simp; omega⟩)
        · exact Gv.pos (by omega) (Gv.ok ⟨ha.1, by simp; omega⟩)
    | succ d ih =>
      intro n out x s S g1 g2 hn
      cases n with
      | zero => omega
      | succ n =>
        simp only [spec_l10DrawWeights.l0, spec_l10DrawWeights.s0]
        rw [show wrap64 (((d + 1 : Nat) : Int) - 1) = (d : Int) by rw [w64 (by omega) (by omega)]; omega]
        exact Gv.pos (by omega) (Gv.bind (next_ok S _) fun a ha => Gv.pos (by omega) (ih n _ x _ ha.1 (by simp; omega) (by simp; omega) (by omega)))
  unfold spec_l10DrawWeights.f spec_l10DrawWeights.g
  refine Gv.bind (pick_ok S _ (by simp)) fun a ha => Gv.bind (next_ok ha.1 _) fun b hb => ?_
  have b1 := hb.2.2 (by omega)
  obtain ⟨e, he⟩ := Int.eq_ofNat_of_zero_le b1.1
  rw [he, show wrap64 (1 + (e : Int)) = ((1 + e : Nat) : Int) by rw [w64 (by omega) (by omega)]; omega]
  exact key (1 + e) k [] _ _ hb.1 (by simp) (by simp; omega) (by omega)

/-! ### The law -/

theorem tri_tdiv {w : Int} : Int.tdiv (w * (w - 1)) 2 = tri w := by
  unfold tri
  rw [Int.tdiv_eq_ediv_of_nonneg]
  by_cases c : 1 ≤ w
  · exact Int.mul_nonneg (by omega) (by omega)
  · exact Int.mul_nonneg_of_nonpos_of_nonpos (by omega) (by omega)

theorem tri_bnd {w : Int} (h0 : -240 ≤ w) (h1 : w ≤ 240) : 0 ≤ w * (w - 1) ∧ w * (w - 1) ≤ 60000 ∧ 0 ≤ tri w ∧ tri w ≤ 60000 := by
  have a : 0 ≤ w * (w - 1) := by
    by_cases c : 1 ≤ w
    · exact Int.mul_nonneg (by omega) (by omega)
    · exact Int.mul_nonneg_of_nonpos_of_nonpos (by omega) (by omega)
  have b : w * (w - 1) ≤ 60000 := by
    by_cases c : 1 ≤ w
    · have := Int.mul_le_mul (show w ≤ 240 by omega) (show w - 1 ≤ 240 by omega) (by omega) (by omega)
      omega
    · have := Int.mul_le_mul (show -w ≤ 240 by omega) (show -(w - 1) ≤ 241 by omega) (by omega) (by omega)
      rw [Int.neg_mul_neg] at this
      omega
  unfold tri
  omega

end Go.Proofs.Ytmgdobiloapelaa.Vf
