/- Weights: the reference's and the program's look at them; shares by weights; means by weights. -/
import Derived.Test.YtdleajokhhijhaaMx1
import Derived.Test.YtdleajokhhijhaaMx2
import Derived.Test.YtdleajokhhijhaaMx3
import Derived.Test.YtdleajokhhijhaaMx4
import Derived.Test.YtdleajokhhijhaaMuWaits
set_option linter.unusedVariables false
set_option linter.unusedSimpArgs false
namespace Go.Proofs.Ytdleajokhhijhaa.Mb
open Go.RowKit Go.Proofs.YtdleajokhhijhaaW.PrintWords Go.Proofs.YtdleajokhhijhaaW.PrintLast Go.Proofs.Ytdleajokhhijhaa.M

def weightsB (w : List Int) (low most : Int) : Bool := w.all (inB low 100) && decide (0 < w.sum) && decide ((w.length : Int) ≤ most)
theorem l10Weights_loop (w : List Int) (low most : Int) (hlow : 0 ≤ low) (hl : w.length ≤ 35184372088832) : ∀ (suf : List Int) (i : Nat) (acc : Int), w.drop i = suf → 0 ≤ acc → acc ≤ 100 * i →
    Ev (fun k => spec_l10Weights.l0 k w low most acc i) (suf.all (inB low 100) && decide (0 < acc + suf.sum) && decide ((w.length : Int) ≤ most)) := by
  intro suf
  induction suf with
  | nil =>
    intro i acc h h0 h1
    have hi := drop_nil h
    refine ev_succ ?_
    simp only [spec_l10Weights.l0]
    refine ev_neg (by omega) ?_
    by_cases e : acc > 0
    · exact ev_pos e (ev_val (Ev.now _) (by simp [show 0 < acc from e]))
    · exact ev_neg e (ev_val (Ev.now _) (by simp [show ¬ 0 < acc from e]))
  | cons x suf ih =>
    intro i acc h h0 h1
    obtain ⟨hi, hx, hs⟩ := drop_split h
    refine ev_succ ?_
    simp only [spec_l10Weights.l0]
    refine ev_pos (by omega) (ev_pos (by omega) (ev_bnd (in_some _ _ _) ?_))
    rw [hx]
    by_cases hb : inB low 100 x = true
    · refine ev_pos hb ?_
      have hb' := (inB_iff _ _ _).mp hb
      rw [w64n (by omega), w64 (by omega) (by omega)]
      refine ev_val (ih (i + 1) (acc + x) hs (by omega) (by omega)) ?_
      rw [List.all_cons, hb, Bool.true_and, show (x :: suf).sum = x + suf.sum from List.sum_cons, ← Int.add_assoc]
    · refine ev_neg hb (ev_val (Ev.now _) ?_)
      simp [List.all_cons, hb]
theorem l10Weights_ev (w : List Int) (low most : Int) (hlow : 0 ≤ low) (hl : w.length ≤ 35184372088832) : Ev (fun k => spec_l10Weights.f k w low most) (weightsB w low most) := by
  unfold spec_l10Weights.f weightsB
  exact ev_val (l10Weights_loop w low most hlow hl w 0 0 (by simp) (by omega) (by omega)) (by rw [Int.zero_add])
theorem weightsB_iff (w : List Int) (low most : Int) : weightsB w low most = true ↔ (∀ x ∈ w, low ≤ x ∧ x ≤ 100) ∧ 0 < w.sum ∧ (w.length : Int) ≤ most := by
  unfold weightsB
  rw [Bool.and_eq_true, Bool.and_eq_true, all_iff, decide_eq_true_iff, decide_eq_true_iff]
  constructor
  · rintro ⟨⟨h1, h2⟩, h3⟩; exact ⟨h1, h2, h3⟩
  · rintro ⟨h1, h2, h3⟩; exact ⟨⟨h1, h2⟩, h3⟩
theorem sum_pos_len {w : List Int} (h : 0 < w.sum) : 1 ≤ w.length := by
  rcases Nat.eq_zero_or_pos w.length with h0 | h0
  · rw [sum_empty h0] at h; omega
  · exact h0
theorem areWeights_ev (w : List Int) : Ev (fun k => impl_areWeights.f k w) (weightsB w 0 8) := by
  unfold impl_areWeights.f
  by_cases h1 : inB 1 8 (w.length : Int) = true
  · refine ev_pos h1 ?_
    have h1' := (inB_iff _ _ _).mp h1
    by_cases h2 : w.all (inB 0 100) = true
    · refine ev_pos h2 ?_
      have h2' := (all_iff w 0 100).mp h2
      refine Ev.bind (total_ev w (by omega) (fun x hx => by have := h2' x hx; omega)) (ev_val (Ev.now _) ?_)
      unfold weightsB
      rw [h2, decide_eq_true (show (w.length : Int) ≤ 8 by omega)]; simp
    · refine ev_neg h2 (ev_val (Ev.now _) ?_)
      unfold weightsB
      simp [h2]
  · refine ev_neg h1 (ev_val (Ev.now _) ?_)
    cases h : weightsB w 0 8
    · rfl
    · exfalso
      obtain ⟨h2, h3, h4⟩ := (weightsB_iff w 0 8).mp h
      have := sum_pos_len h3
      exact h1 ((inB_iff _ _ _).mpr (by omega))

/-! shares by weights -/
def pickW (w o : List Int) : Nat → Nat → Int → Int
  | 0, _, b => b
  | d + 1, i, b => pickW w o d (i + 1) (if rd w i * rd o b * (rd o b + 1) > rd w b * rd o i * (rd o i + 1) then (i : Int) else b)
structure Outs (w o : List Int) (t : Nat) : Prop where
  len : o.length = w.length
  lo : ∀ i : Nat, i < w.length → 1 ≤ rd o i
  hi : ∀ i : Nat, i < w.length → rd o i ≤ 1 + t
theorem pickW_ok (w o : List Int) : ∀ (d i : Nat) (b : Int), w.length - i = d → 0 ≤ b → b < w.length → 0 ≤ pickW w o d i b ∧ pickW w o d i b < w.length := by
  intro d
  induction d with
  | zero => intro i b hd h0 h1; exact ⟨h0, h1⟩
  | succ d ih =>
    intro i b hd h0 h1
    simp only [pickW]
    split
    · exact ih (i + 1) i (by omega) (by omega) (by omega)
    · exact ih (i + 1) b (by omega) h0 h1
def dealW (w : List Int) : Nat → List Int → List Int
  | 0, o => o
  | d + 1, o => dealW w d (o.set (pickW w o w.length 0 0).toNat (rd o (pickW w o w.length 0 0) + 1))
theorem Outs.next {w o : List Int} {t : Nat} (H : Outs w o t) {b : Int} (h0 : 0 ≤ b) (h1 : b < w.length) : Outs w (o.set b.toNat (rd o b + 1)) (t + 1) := by
  have hl := H.len
  have hb1 := H.hi b.toNat (by omega)
  have hb0 := H.lo b.toNat (by omega)
  rw [toNat_rd o h0]
  refine ⟨by simpa using hl, ?_, ?_⟩
  · intro i hi
    rw [rd_set _ _ _ _ (by omega)]
    split
    · omega
    · exact H.lo i hi
  · intro i hi
    rw [rd_set _ _ _ _ (by omega)]
    split
    · omega
    · have := H.hi i hi
      omega
theorem mul3 {a b c : Int} (ha : 0 ≤ a) (ha2 : a ≤ 100) (hb : 0 ≤ b) (hb2 : b ≤ 200) (hc : 0 ≤ c) (hc2 : c ≤ 200) : wrap64 (wrap64 (a * b) * c) = a * b * c := by
  have h1 : 0 ≤ a * b := Int.mul_nonneg ha hb
  have h2 : a * b ≤ 100 * 200 := Int.mul_le_mul ha2 hb2 hb (by omega)
  have h3 : 0 ≤ a * b * c := Int.mul_nonneg h1 hc
  have h4 : a * b * c ≤ 20000 * 200 := Int.mul_le_mul (by omega) hc2 hc (by omega)
  rw [w64 (x := a * b) (by omega) (by omega)]
  exact w64 (by omega) (by omega)
theorem testW {w o : List Int} {t : Nat} (H : Outs w o t) (ht : t ≤ 120) (hw : ∀ x ∈ w, 0 ≤ x ∧ x ≤ 100) {i b : Int} (hi0 : 0 ≤ i) (hi : i < w.length) (hb0 : 0 ≤ b) (hb : b < w.length) :
    wrap64 ((wrap64 ((rd w i) * (rd o b))) * (wrap64 ((rd o b) + 1))) = rd w i * rd o b * (rd o b + 1) := by
  have h1 := H.lo b.toNat (by omega)
  have h2 := H.hi b.toNat (by omega)
  have h3 := hw _ (rd_mem (l := w) (i := i.toNat) (by omega))
  rw [← toNat_rd _ hb0] at h1 h2
  rw [← toNat_rd _ hi0] at h3
  rw [w64 (x := rd o b + 1) (by omega) (by omega)]
  exact mul3 (by omega) (by omega) (by omega) (by omega) (by omega) (by omega)
theorem rd_bound {w o : List Int} {t : Nat} (H : Outs w o t) {b : Int} (hb0 : 0 ≤ b) (hb : b < w.length) : 1 ≤ rd o b ∧ rd o b ≤ 1 + t := by
  have h1 := H.lo b.toNat (by omega)
  have h2 := H.hi b.toNat (by omega)
  rw [← toNat_rd _ hb0] at h1 h2
  exact ⟨h1, h2⟩
theorem pickW_one (w o : List Int) (h0 : 0 < w.length) : pickW w o (w.length - 1) 1 0 = pickW w o w.length 0 0 := by
  obtain ⟨f, hf⟩ : ∃ f, w.length = f + 1 := ⟨w.length - 1, by omega⟩
  rw [hf]
  show pickW w o f 1 0 = pickW w o f 1 (if rd w ((0 : Nat) : Int) * rd o 0 * (rd o 0 + 1) > rd w 0 * rd o ((0 : Nat) : Int) * (rd o ((0 : Nat) : Int) + 1) then ((0 : Nat) : Int) else 0)
  split <;> rfl
theorem rd_replicate1 (n i : Nat) (h : i < n) : rd (List.replicate n (1 : Int)) i = 1 := by
  rw [rd_nat, List.getD_eq_getElem?_getD, List.getElem?_replicate, if_pos h]; rfl
theorem Outs.ones (w : List Int) : Outs w (List.replicate w.length 1) 0 := by
  refine ⟨by simp, fun i hi => ?_, fun i hi => ?_⟩
  · rw [rd_replicate1 _ _ hi]; omega
  · rw [rd_replicate1 _ _ hi]; omega
def sharesM (w : List Int) (n : Int) : List Int × Int :=
  if (weightsB w 0 8 && inB 1 120 n) = true then (if n < w.length then ([], 3) else (dealW w (n - w.length).toNat (List.replicate w.length 1), 0)) else ([], 2)
theorem dealW_length (w : List Int) : ∀ (d : Nat) (o : List Int), (dealW w d o).length = o.length := by
  intro d
  induction d with
  | zero => intro o; rfl
  | succ d ih => intro o; rw [dealW, ih]; simp
theorem sharesM_length (w : List Int) (n : Int) : (sharesM w n).1.length ≤ 120 := by
  unfold sharesM
  split
  · rename_i h
    rw [Bool.and_eq_true] at h
    obtain ⟨h1, h2, h3⟩ := (weightsB_iff w 0 8).mp h.1
    split
    · simp
    · show (dealW w _ _).length ≤ 120
      rw [dealW_length]
      simp
      omega
  · simp

/-! means by weights -/
def missGo (l w : List Int) : Nat → Nat → Bool
  | 0, _ => false
  | f + 1, i => if rd w i > 0 then (if decide ((i : Int) ∈ l) = true then missGo l w f (i + 1) else true) else missGo l w f (i + 1)
def wsumGo (l w : List Int) : Nat → Nat → Int → Int
  | 0, _, a => a
  | f + 1, i, a => if rd w i > 0 then wsumGo l w f (i + 1) (a + rd w i * sumGo l i i l.length 0 0) else wsumGo l w f (i + 1) a
def meanWM (l w : List Int) : Int × Int × Int :=
  if (turnsB l 8 && weightsB w 0 8) = true then (if missGo l w w.length 0 = true then (0, 0, 4) else lowM (wsumGo l w w.length 0 0).toNat (w.sum * l.length).toNat) else (0, 0, 2)
theorem missGo_mem (l w : List Int) : ∀ (f i : Nat), missGo l w f i = false → ∀ j, i ≤ j → j < i + f → rd w j > 0 → (j : Int) ∈ l := by
  intro f
  induction f with
  | zero => intro i h j h1 h2; omega
  | succ f ih =>
    intro i h j h1 h2 h3
    simp only [missGo] at h
    rcases Nat.eq_or_lt_of_le h1 with rfl | h1
    · rw [if_pos h3] at h
      by_cases hm : (i : Int) ∈ l
      · exact hm
      · rw [decide_eq_false hm] at h; simp at h
    · refine ih (i + 1) ?_ j h1 (by omega) h3
      split at h
      · split at h
        · exact h
        · cases h
      · exact h
theorem wstep_b {x s : Int} (hx : 0 ≤ x) (hx2 : x ≤ 100) (hs : 0 ≤ s) (hs2 : s ≤ 14400) : 0 ≤ x * s ∧ x * s ≤ 1440000 := by
  refine ⟨Int.mul_nonneg hx hs, ?_⟩
  calc x * s ≤ 100 * 14400 := Int.mul_le_mul hx2 hs2 hs (by omega)
    _ = 1440000 := by decide
theorem sum_b (l : List Int) (i : Int) (hi : i ∈ l) (hl : l.length ≤ 120) : 0 ≤ sumGo l i i l.length 0 0 ∧ sumGo l i i l.length 0 0 ≤ 14400 := by
  have := sumGo_b l i i hi hi hl l.length 0 0 (by omega) (by omega) (by omega)
  omega
theorem wsumGo_b (l w : List Int) (hw : ∀ x ∈ w, 0 ≤ x ∧ x ≤ 100) (hl : l.length ≤ 120) (hm : ∀ j : Nat, j < w.length → rd w j > 0 → (j : Int) ∈ l) : ∀ (f i : Nat) (a : Int), w.length - i = f → i ≤ w.length → 0 ≤ a → a ≤ 1440000 * i → 0 ≤ wsumGo l w f i a ∧ wsumGo l w f i a ≤ 1440000 * w.length := by
  intro f
  induction f with
  | zero => intro i a hf hi h1 h2; simp only [wsumGo]; omega
  | succ f ih =>
    intro i a hf hi h1 h2
    simp only [wsumGo]
    have hx := hw _ (rd_mem (l := w) (i := i) (by omega))
    split
    · rename_i hp
      have hs := sum_b l i (hm i (by omega) hp) hl
      have := wstep_b hx.1 hx.2 hs.1 hs.2
      exact ih (i + 1) _ (by omega) (by omega) (by omega) (by omega)
    · exact ih (i + 1) _ (by omega) (by omega) (by omega) (by omega)
theorem specMeanW_loop (l w : List Int) (hw : ∀ x ∈ w, 0 ≤ x ∧ x ≤ 100) (hl : l.length ≤ 120) (h8 : w.length ≤ 8) (hm : ∀ j : Nat, j < w.length → rd w j > 0 → (j : Int) ∈ l) : ∀ (f i : Nat) (a : Int), w.length - i = f → i ≤ w.length → 0 ≤ a → a ≤ 1440000 * i →
    Ev (fun k => spec_l10Mean.l0 k l w a i) (wsumGo l w f i a) := by
  intro f
  induction f with
  | zero =>
    intro i a hf hi h1 h2
    refine ev_succ ?_
    simp only [spec_l10Mean.l0]
    exact ev_neg (by omega) (Ev.now _)
  | succ f ih =>
    intro i a hf hi h1 h2
    have hx := hw _ (rd_mem (l := w) (i := i) (by omega))
    refine ev_succ ?_
    simp only [spec_l10Mean.l0]
    refine ev_pos (by omega) (ev_pos (by omega) ?_)
    simp only [wsumGo]
    by_cases hp : rd w i > 0
    · have hi' := hm i (by omega) hp
      have hs := sum_b l i hi' hl
      have hb := wstep_b hx.1 hx.2 hs.1 hs.2
      refine ev_pos hp (Ev.bind (specSum_ev l i i hi' hi' hl) ?_)
      rw [if_pos hp, w64n (by omega), w64 (x := rd w i * sumGo l i i l.length 0 0) (by omega) (by omega), w64 (by omega) (by omega)]
      exact ih (i + 1) _ (by omega) (by omega) (by omega) (by omega)
    · refine ev_neg hp ?_
      rw [if_neg hp, w64n (by omega)]
      exact ih (i + 1) _ (by omega) (by omega) (by omega) (by omega)
theorem implMeanW_loop (l w : List Int) (hw : ∀ x ∈ w, 0 ≤ x ∧ x ≤ 100) (hl : l.length ≤ 120) (h8 : w.length ≤ 8) (hm : ∀ j : Nat, j < w.length → rd w j > 0 → (j : Int) ∈ l) : ∀ (f i : Nat) (a : Int), w.length - i = f → i ≤ w.length → 0 ≤ a → a ≤ 1440000 * i →
    Ev (fun k => impl_weighted.l0 k l a w w.length i) (wsumGo l w f i a) := by
  intro f
  induction f with
  | zero =>
    intro i a hf hi h1 h2
    refine ev_succ ?_
    simp only [impl_weighted.l0]
    exact ev_neg (by omega) (Ev.now _)
  | succ f ih =>
    intro i a hf hi h1 h2
    have hx := hw _ (rd_mem (l := w) (i := i) (by omega))
    refine ev_succ ?_
    simp only [impl_weighted.l0]
    refine ev_pos (by omega) (ev_pos (by omega) (ev_pos (by omega) ?_))
    simp only [wsumGo]
    by_cases hp : rd w i > 0
    · have hi' := hm i (by omega) hp
      have hs := sum_b l i hi' hl
      have hb := wstep_b hx.1 hx.2 hs.1 hs.2
      refine ev_pos hp (Ev.bind (implSum_ev l i hi' hl) ?_)
      rw [if_pos hp, w64n (by omega), w64 (x := rd w i * sumGo l i i l.length 0 0) (by omega) (by omega), w64 (by omega) (by omega)]
      exact ih (i + 1) _ (by omega) (by omega) (by omega) (by omega)
    · refine ev_neg hp ?_
      rw [if_neg hp, w64n (by omega)]
      exact ih (i + 1) _ (by omega) (by omega) (by omega) (by omega)
theorem sum_drop (w : List Int) (i : Nat) (h : i < w.length) : (w.drop i).sum = rd w i + (w.drop (i + 1)).sum := by rw [drop_cons h, List.sum_cons]
theorem specW_loop (l w : List Int) (hw : ∀ x ∈ w, 0 ≤ x ∧ x ≤ 100) (hl : l.length ≤ 120) (hl0 : 0 < l.length) (h8 : w.length ≤ 8) (hsum : 0 < w.sum) : ∀ (f i : Nat) (a : Int), w.length - i = f → i ≤ w.length → a + (w.drop i).sum = w.sum → 0 ≤ a → a ≤ 100 * i →
    (missGo l w w.length 0 = false → missGo l w f i = false) → (missGo l w f i = false → missGo l w w.length 0 = false) →
    Ev (fun k => spec_MeanByWeights.l0 k l w a i) (if missGo l w f i = true then (0, 0, 4) else lowM (wsumGo l w w.length 0 0).toNat (w.sum * l.length).toNat) := by
  intro f
  induction f with
  | zero =>
    intro i a hf hi ha h0 h1 hm hm2
    have hmm := missGo_mem l w w.length 0 (hm2 rfl)
    have hmm' : ∀ j : Nat, j < w.length → rd w j > 0 → (j : Int) ∈ l := fun j hj => hmm j (by omega) (by omega)
    refine ev_succ ?_
    simp only [spec_MeanByWeights.l0]
    refine ev_neg (by omega) ?_
    have hwb := wsumGo_b l w hw hl hmm' w.length 0 0 (by omega) (by omega) (by omega) (by omega)
    rw [List.drop_eq_nil_of_le (by omega), List.sum_nil, Int.add_zero] at ha
    subst ha
    refine Ev.bind (specMeanW_loop l w hw hl h8 hmm' w.length 0 0 (by omega) (by omega) (by omega) (by omega)) ?_
    have hp := mul_small (a := w.sum) (b := (l.length : Int)) (by omega) (by omega) (by omega) (by omega)
    have hp1 : 0 < w.sum * (l.length : Int) := Int.mul_pos hsum (by omega)
    rw [w64 (x := w.sum * (l.length : Int)) (by omega) (by omega)]
    obtain ⟨m, hm⟩ := nat_of hwb.1
    obtain ⟨q, hq⟩ := nat_of hp.1
    rw [hm, hq, Int.toNat_natCast, Int.toNat_natCast]
    refine ev_val (low_then (by omega) (by omega) (by omega)) ?_
    simp [missGo]
  | succ f ih =>
    intro i a hf hi ha h0 h1 hm hm2
    have hx := hw _ (rd_mem (l := w) (i := i) (by omega))
    have hsd := sum_drop w i (by omega)
    refine ev_succ ?_
    simp only [spec_MeanByWeights.l0]
    refine ev_pos (by omega) (ev_pos (by omega) ?_)
    rw [w64n (by omega), w64 (x := a + rd w i) (by omega) (by omega)]
    simp only [missGo] at hm hm2 ⊢
    by_cases hp : rd w i > 0
    · refine ev_pos hp (Ev.bind (specWait_ev l i 0 (by omega) (by omega) hl0) ?_)
      simp only [if_pos hp] at hm hm2 ⊢
      by_cases hmem : (i : Int) ∈ l
      · have h3 := waitM_mem l i 0 hl0 hmem
        simp only [decide_eq_true hmem, if_true] at hm hm2 ⊢
        exact ev_neg (by omega) (ih (i + 1) (a + rd w i) (by omega) (by omega) (by omega) (by omega) (by omega) hm hm2)
      · have h3 := (waitM_neg l i 0 hl0).mpr hmem
        simp only [decide_eq_false hmem] at hm hm2 ⊢
        exact ev_pos (by omega) (Ev.now _)
    · refine ev_neg hp ?_
      simp only [if_neg hp] at hm hm2 ⊢
      exact ih (i + 1) (a + rd w i) (by omega) (by omega) (by omega) (by omega) (by omega) hm hm2
theorem implW_loop (l w : List Int) (hw : ∀ x ∈ w, 0 ≤ x ∧ x ≤ 100) (hl : l.length ≤ 120) (hl0 : 0 < l.length) (h8 : w.length ≤ 8) (hsum : 0 < w.sum) (hs8 : w.sum ≤ 800) : ∀ (f i : Nat), w.length - i = f → i ≤ w.length →
    (missGo l w w.length 0 = false → missGo l w f i = false) → (missGo l w f i = false → missGo l w w.length 0 = false) →
    Ev (fun k => impl_MeanByWeights.l0 k l w w w.length i) (if missGo l w f i = true then (0, 0, 4) else lowM (wsumGo l w w.length 0 0).toNat (w.sum * l.length).toNat) := by
  intro f
  induction f with
  | zero =>
    intro i hf hi hm hm2
    have hmm := missGo_mem l w w.length 0 (hm2 rfl)
    have hmm' : ∀ j : Nat, j < w.length → rd w j > 0 → (j : Int) ∈ l := fun j hj => hmm j (by omega) (by omega)
    refine ev_succ ?_
    simp only [impl_MeanByWeights.l0]
    refine ev_neg (by omega) ?_
    have hwb := wsumGo_b l w hw hl hmm' w.length 0 0 (by omega) (by omega) (by omega) (by omega)
    have hwe : Ev (fun k => impl_weighted.f k l w) (wsumGo l w w.length 0 0) := by
      unfold impl_weighted.f
      exact implMeanW_loop l w hw hl h8 hmm' w.length 0 0 (by omega) (by omega) (by omega) (by omega)
    refine Ev.bind hwe (ev_bnd (len_some l) (Ev.bind (total_ev w (by omega) (fun x hx => by have := hw x hx; omega)) ?_))
    have hp := mul_small (a := w.sum) (b := (l.length : Int)) (by omega) (by omega) (by omega) (by omega)
    have hp1 : 0 < w.sum * (l.length : Int) := Int.mul_pos hsum (by omega)
    rw [Int.mul_comm (l.length : Int) w.sum, w64 (x := w.sum * (l.length : Int)) (by omega) (by omega)]
    obtain ⟨m, hm⟩ := nat_of hwb.1
    obtain ⟨q, hq⟩ := nat_of hp.1
    rw [hm, hq, Int.toNat_natCast, Int.toNat_natCast]
    refine ev_val (frac_then (by omega) (by omega) (by omega)) ?_
    simp [missGo]
  | succ f ih =>
    intro i hf hi hm hm2
    refine ev_succ ?_
    simp only [impl_MeanByWeights.l0]
    refine ev_pos (by omega) (ev_pos (by omega) (ev_pos (by omega) ?_))
    rw [w64n (by omega)]
    simp only [missGo] at hm hm2 ⊢
    by_cases hp : rd w i > 0
    · refine ev_pos hp (Ev.bind (Ev.of (fun k => slices_Contains_int64_int64.mono l i k) (contains_some l i (by omega))) ?_)
      simp only [if_pos hp] at hm hm2 ⊢
      by_cases hmem : (i : Int) ∈ l
      · simp only [decide_eq_true hmem, if_true] at hm hm2 ⊢
        exact ih (i + 1) (by omega) (by omega) hm hm2
      · simp only [decide_eq_false hmem] at hm hm2 ⊢
        exact ev_neg (by simp) (Ev.now _)
    · refine ev_neg hp ?_
      simp only [if_neg hp] at hm hm2 ⊢
      exact ih (i + 1) (by omega) (by omega) hm hm2
theorem codeM_nil (l : List Int) (ok : Bool) : codeM l ok [] = if (turnsB l 8 && ok) = true then 0 else 2 := by
  unfold codeM
  simp
theorem specMeanW_ev (l w : List Int) (hl : l.length ≤ 35184372088832) (hw : w.length ≤ 35184372088832) : Ev (fun k => spec_MeanByWeights.f k l w) (meanWM l w) := by
  unfold spec_MeanByWeights.f meanWM
  refine Ev.bind (l10Turns_ev l [] hl (by simp)) ?_
  simp only [List.all_nil, Bool.true_and]
  cases ht : turnsB l 8
  · refine ev_neg (by simp) (ev_succ ?_)
    simp only [spec_MeanByWeights.j0]
    exact ev_pos trivial (ev_val (Ev.now _) (by simp))
  · obtain ⟨t1, t2⟩ := (turnsB_iff l 8).mp ht
    refine ev_pos rfl (Ev.bind (l10Weights_ev w 0 8 (by omega) hw) (ev_succ ?_))
    simp only [spec_MeanByWeights.j0]
    cases hb : weightsB w 0 8
    · exact ev_pos rfl (ev_val (Ev.now _) (by simp))
    · obtain ⟨h1, h2, h3⟩ := (weightsB_iff w 0 8).mp hb
      refine ev_neg (by simp) ?_
      simp only [Bool.true_and, if_true]
      exact specW_loop l w h1 t1.2 (by omega) (by omega) h2 w.length 0 0 (by omega) (by omega) (by simp) (by omega) (by omega) id id
theorem implMeanW_ev (l w : List Int) : Ev (fun k => impl_MeanByWeights.f k l w) (meanWM l w) := by
  unfold impl_MeanByWeights.f meanWM
  refine Ev.bind (areWeights_ev w) (ev_bnd (waitCode_some _ _ _) ?_)
  rw [codeM_nil]
  by_cases h : (turnsB l 8 && weightsB w 0 8) = true
  · simp only [if_pos h]
    rw [Bool.and_eq_true] at h
    obtain ⟨t1, t2⟩ := (turnsB_iff l 8).mp h.1
    obtain ⟨h1, h2, h3⟩ := (weightsB_iff w 0 8).mp h.2
    have hs := sum_le w 100 (fun x hx => (h1 x hx).2)
    refine ev_pos trivial ?_
    exact implW_loop l w h1 t1.2 (by omega) (by omega) h2 (by omega) w.length 0 (by omega) (by omega) id id
  · simp only [if_neg h]
    exact ev_neg (by omega) (Ev.now _)
end Go.Proofs.Ytdleajokhhijhaa.Mb
