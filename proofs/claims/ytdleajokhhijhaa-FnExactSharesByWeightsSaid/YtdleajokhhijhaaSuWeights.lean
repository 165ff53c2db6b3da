/- Weights: the reference's and the program's look at them; shares by weights; means by weights. -/
import Derived.Test.YtdleajokhhijhaaSx1
import Derived.Test.YtdleajokhhijhaaSx2
import Derived.Test.YtdleajokhhijhaaSx3
import Derived.Test.YtdleajokhhijhaaSuWaits
set_option linter.unusedVariables false
set_option linter.unusedSimpArgs false
namespace Go.Proofs.Ytdleajokhhijhaa.Sb
open Go.RowKit Go.Proofs.YtdleajokhhijhaaW.PrintWords Go.Proofs.YtdleajokhhijhaaW.PrintLast Go.Proofs.Ytdleajokhhijhaa.S

def weightsB (w : List Int) (low most : Int) : Bool := w.all (inB low 100) && decide (0 < w.sum) && decide ((w.length : Int) ≤ most)
theorem l10Weights_loop (w : List Int) (low most : Int) (hlow : 0 ≤ low) (hl : w.length ≤ 35184372088832) : ∀ (suf : List Int) (i : Nat) (acc : Int), w.drop i = suf → 0 ≤ acc → acc ≤ 100 * i →
    Ev (fun k => spec_l10Weights.l0 k w low most acc i) (suf.all (inB low 100) && decide (0 < acc + suf.sum) && decide ((w.length : Int) ≤ most)) := by
  intro suf
  induction suf with
  | nil =>
    intro i acc h h0 h1
    have hi := drop_nil h
    refine ev_succ ?_
    simp only [spec_l10Weights.l0]
    refine ev_neg (by omega) ?_
    by_cases e : acc > 0
    · exact ev_pos e (ev_val (Ev.now _) (by simp [show 0 < acc from e]))
    · exact ev_neg e (ev_val (Ev.now _) (by simp [show ¬ 0 < acc from e]))
  | cons x suf ih =>
    intro i acc h h0 h1
    obtain ⟨hi, hx, hs⟩ := drop_split h
    refine ev_succ ?_
    simp only [spec_l10Weights.l0]
    refine ev_pos (by omega) (ev_pos (by omega) (ev_bnd (in_some _ _ _) ?_))
    rw [hx]
    by_cases hb : inB low 100 x = true
    · refine ev_pos hb ?_
      have hb' := (inB_iff _ _ _).mp hb
      rw [w64n (by omega), w64 (by omega) (by omega)]
      refine ev_val (ih (i + 1) (acc + x) hs (by omega) (by omega)) ?_
      rw [List.all_cons, hb, Bool.true_and, show (x :: suf).sum = x + suf.sum from List.sum_cons, ← Int.add_assoc]
    · refine ev_neg hb (ev_val (Ev.now _) ?_)
      simp [List.all_cons, hb]
theorem l10Weights_ev (w : List Int) (low most : Int) (hlow : 0 ≤ low) (hl : w.length ≤ 35184372088832) : Ev (fun k => spec_l10Weights.f k w low most) (weightsB w low most) := by
  unfold spec_l10Weights.f weightsB
  exact ev_val (l10Weights_loop w low most hlow hl w 0 0 (by simp) (by omega) (by omega)) (by rw [Int.zero_add])
theorem weightsB_iff (w : List Int) (low most : Int) : weightsB w low most = true ↔ (∀ x ∈ w, low ≤ x ∧ x ≤ 100) ∧ 0 < w.sum ∧ (w.length : Int) ≤ most := by
  unfold weightsB
  rw [Bool.and_eq_true, Bool.and_eq_true, all_iff, decide_eq_true_iff, decide_eq_true_iff]
  constructor
  · rintro ⟨⟨h1, h2⟩, h3⟩; exact ⟨h1, h2, h3⟩
  · rintro ⟨h1, h2, h3⟩; exact ⟨⟨h1, h2⟩, h3⟩
theorem sum_pos_len {w : List Int} (h : 0 < w.sum) : 1 ≤ w.length := by
  rcases Nat.eq_zero_or_pos w.length with h0 | h0
  · rw [sum_empty h0] at h; omega
  · exact h0
theorem areWeights_ev (w : List Int) : Ev (fun k => impl_areWeights.f k w) (weightsB w 0 8) := by
  unfold impl_areWeights.f
  by_cases h1 : inB 1 8 (w.length : Int) = true
  · refine ev_pos h1 ?_
    have h1' := (inB_iff _ _ _).mp h1
    by_cases h2 : w.all (inB 0 100) = true
    · refine ev_pos h2 ?_
      have h2' := (all_iff w 0 100).mp h2
      refine Ev.bind (total_ev w (by omega) (fun x hx => by have := h2' x hx; omega)) (ev_val (Ev.now _) ?_)
      unfold weightsB
      rw [h2, decide_eq_true (show (w.length : Int) ≤ 8 by omega)]; simp
    · refine ev_neg h2 (ev_val (Ev.now _) ?_)
      unfold weightsB
      simp [h2]
  · refine ev_neg h1 (ev_val (Ev.now _) ?_)
    cases h : weightsB w 0 8
    · rfl
    · exfalso
      obtain ⟨h2, h3, h4⟩ := (weightsB_iff w 0 8).mp h
      have := sum_pos_len h3
      exact h1 ((inB_iff _ _ _).mpr (by omega))

/-! shares by weights -/
def pickW (w o : List Int) : Nat → Nat → Int → Int
  | 0, _, b => b
  | d + 1, i, b => pickW w o d (i + 1) (if rd w i * rd o b * (rd o b + 1) > rd w b * rd o i * (rd o i + 1) then (i : Int) else b)
structure Outs (w o : List Int) (t : Nat) : Prop where
  len : o.length = w.length
  lo : ∀ i : Nat, i < w.length → 1 ≤ rd o i
  hi : ∀ i : Nat, i < w.length → rd o i ≤ 1 + t
theorem pickW_ok (w o : List Int) : ∀ (d i : Nat) (b : Int), w.length - i = d → 0 ≤ b → b < w.length → 0 ≤ pickW w o d i b ∧ pickW w o d i b < w.length := by
  intro d
  induction d with
  | zero => intro i b hd h0 h1; exact ⟨h0, h1⟩
  | succ d ih =>
    intro i b hd h0 h1
    simp only [pickW]
    split
    · exact ih (i + 1) i (by omega) (by omega) (by omega)
    · exact ih (i + 1) b (by omega) h0 h1
def dealW (w : List Int) : Nat → List Int → List Int
  | 0, o => o
  | d + 1, o => dealW w d (o.set (pickW w o w.length 0 0).toNat (rd o (pickW w o w.length 0 0) + 1))
theorem Outs.next {w o : List Int} {t : Nat} (H : Outs w o t) {b : Int} (h0 : 0 ≤ b) (h1 : b < w.length) : Outs w (o.set b.toNat (rd o b + 1)) (t + 1) := by
  have hl := H.len
  have hb1 := H.hi b.toNat (by omega)
  have hb0 := H.lo b.toNat (by omega)
  rw [toNat_rd o h0]
  refine ⟨by simpa using hl, ?_, ?_⟩
  · intro i hi
    rw [rd_set _ _ _ _ (by omega)]
    split
    · omega
    · exact H.lo i hi
  · intro i hi
    rw [rd_set _ _ _ _ (by omega)]
    split
    · omega
    · have := H.hi i hi
      omega
theorem mul3 {a b c : Int} (ha : 0 ≤ a) (ha2 : a ≤ 100) (hb : 0 ≤ b) (hb2 : b ≤ 200) (hc : 0 ≤ c) (hc2 : c ≤ 200) : wrap64 (wrap64 (a * b) * c) = a * b * c := by
  have h1 : 0 ≤ a * b := Int.mul_nonneg ha hb
  have h2 : a * b ≤ 100 * 200 := Int.mul_le_mul ha2 hb2 hb (by omega)
  have h3 : 0 ≤ a * b * c := Int.mul_nonneg h1 hc
  have h4 : a * b * c ≤ 20000 * 200 := Int.mul_le_mul (by omega) hc2 hc (by omega)
  rw [w64 (x := a * b) (by omega) (by omega)]
  exact w64 (by omega) (by omega)
theorem testW {w o : List Int} {t : Nat} (H : Outs w o t) (ht : t ≤ 120) (hw : ∀ x ∈ w, 0 ≤ x ∧ x ≤ 100) {i b : Int} (hi0 : 0 ≤ i) (hi : i < w.length) (hb0 : 0 ≤ b) (hb : b < w.length) :
    wrap64 ((wrap64 ((rd w i) * (rd o b))) * (wrap64 ((rd o b) + 1))) = rd w i * rd o b * (rd o b + 1) := by
  have h1 := H.lo b.toNat (by omega)
  have h2 := H.hi b.toNat (by omega)
  have h3 := hw _ (rd_mem (l := w) (i := i.toNat) (by omega))
  rw [← toNat_rd _ hb0] at h1 h2
  rw [← toNat_rd _ hi0] at h3
  rw [w64 (x := rd o b + 1) (by omega) (by omega)]
  exact mul3 (by omega) (by omega) (by omega) (by omega) (by omega) (by omega)
theorem rd_bound {w o : List Int} {t : Nat} (H : Outs w o t) {b : Int} (hb0 : 0 ≤ b) (hb : b < w.length) : 1 ≤ rd o b ∧ rd o b ≤ 1 + t := by
  have h1 := H.lo b.toNat (by omega)
  have h2 := H.hi b.toNat (by omega)
  rw [← toNat_rd _ hb0] at h1 h2
  exact ⟨h1, h2⟩
theorem specS_inner (w o : List Int) (x : Int) (t : Nat) (H : Outs w o t) (ht : t ≤ 120) (hw : ∀ x ∈ w, 0 ≤ x ∧ x ≤ 100) (h0 : 0 < w.length) (hl : w.length ≤ 8) (r : List Int × Int)
    (hk : Ev (fun k => spec_SharesByWeights.l1 k w (o.set (pickW w o w.length 0 0).toNat (rd o (pickW w o w.length 0 0) + 1)) (wrap64 (x - 1))) r) :
    ∀ (d i : Nat) (b : Int), w.length - i = d → 0 ≤ b → b < w.length → pickW w o d i b = pickW w o w.length 0 0 → Ev (fun k => spec_SharesByWeights.l2 k w o x b i) r := by
  have hlen := H.len
  intro d
  induction d with
  | zero =>
    intro i b hd hb0 hb hp
    simp only [pickW] at hp
    refine ev_succ ?_
    simp only [spec_SharesByWeights.l2]
    have h1 := rd_bound H hb0 hb
    refine ev_neg (by omega) (ev_pos hb0 (ev_pos (by omega) ?_))
    rw [w64 (x := rd o b + 1) (by omega) (by omega), hp]
    exact hk
  | succ d ih =>
    intro i b hd hb0 hb hp
    refine ev_succ ?_
    simp only [spec_SharesByWeights.l2]
    refine ev_pos (by omega) (ev_pos (by omega) (ev_pos (by omega) (ev_pos hb0 (ev_pos (by omega) (ev_pos hb ?_)))))
    rw [testW H ht hw (i := (i : Int)) (b := b) (by omega) (by omega) hb0 hb, testW H ht hw (i := b) (b := (i : Int)) hb0 hb (by omega) (by omega), w64n (by omega)]
    simp only [pickW] at hp
    by_cases e : rd w i * rd o b * (rd o b + 1) > rd w b * rd o i * (rd o i + 1)
    · refine ev_pos e ?_
      rw [if_pos e] at hp
      exact ih (i + 1) i (by omega) (by omega) (by omega) hp
    · refine ev_neg e ?_
      rw [if_neg e] at hp
      exact ih (i + 1) b (by omega) hb0 hb hp
theorem pickW_one (w o : List Int) (h0 : 0 < w.length) : pickW w o (w.length - 1) 1 0 = pickW w o w.length 0 0 := by
  obtain ⟨f, hf⟩ : ∃ f, w.length = f + 1 := ⟨w.length - 1, by omega⟩
  rw [hf]
  show pickW w o f 1 0 = pickW w o f 1 (if rd w ((0 : Nat) : Int) * rd o 0 * (rd o 0 + 1) > rd w 0 * rd o ((0 : Nat) : Int) * (rd o ((0 : Nat) : Int) + 1) then ((0 : Nat) : Int) else 0)
  split <;> rfl
theorem specS_outer (w : List Int) (hw : ∀ x ∈ w, 0 ≤ x ∧ x ≤ 100) (h0 : 0 < w.length) (hl : w.length ≤ 8) : ∀ (d t : Nat) (o : List Int), Outs w o t → t + d ≤ 120 →
    Ev (fun k => spec_SharesByWeights.l1 k w o d) (dealW w d o, 0) := by
  intro d
  induction d with
  | zero =>
    intro t o H hd
    refine ev_succ ?_
    simp only [spec_SharesByWeights.l1]
    exact ev_neg (by omega) (Ev.now _)
  | succ d ih =>
    intro t o H hd
    refine ev_succ ?_
    simp only [spec_SharesByWeights.l1]
    refine ev_pos (by omega) ?_
    have hp := pickW_ok w o w.length 0 0 (by omega) (by omega) (by omega)
    refine specS_inner w o _ t H (by omega) hw h0 hl _ ?_ (w.length - 1) 1 0 (by omega) (by omega) (by omega) (pickW_one w o h0)
    rw [w64 (by omega) (by omega), show ((d + 1 : Nat) : Int) - 1 = (d : Int) by omega]
    exact ih (t + 1) _ (H.next hp.1 hp.2) (by omega)
theorem implS_inner (w o : List Int) (n x : Int) (t : Nat) (H : Outs w o t) (ht : t ≤ 120) (hw : ∀ x ∈ w, 0 ≤ x ∧ x ≤ 100) (h0 : 0 < w.length) (hl : w.length ≤ 8) (r : List Int × Int)
    (hk : Ev (fun k => impl_SharesByWeights.l0 k w (o.set (pickW w o w.length 0 0).toNat (rd o (pickW w o w.length 0 0) + 1)) n (wrap64 (x + 1))) r) :
    ∀ (d i : Nat) (b : Int), w.length - i = d → 0 ≤ b → b < w.length → pickW w o d i b = pickW w o w.length 0 0 → Ev (fun k => impl_SharesByWeights.l1 k w o b n x o o.length i) r := by
  have hlen := H.len
  intro d
  induction d with
  | zero =>
    intro i b hd hb0 hb hp
    simp only [pickW] at hp
    refine ev_succ ?_
    simp only [impl_SharesByWeights.l1]
    have h1 := rd_bound H hb0 hb
    refine ev_neg (by omega) (ev_pos hb0 (ev_pos (by omega) ?_))
    rw [w64 (x := rd o b + 1) (by omega) (by omega), hp]
    exact hk
  | succ d ih =>
    intro i b hd hb0 hb hp
    refine ev_succ ?_
    simp only [impl_SharesByWeights.l1]
    refine ev_pos (by omega) (ev_pos (by omega) (ev_pos (by omega) (ev_pos (by omega) (ev_pos hb0 (ev_pos (by omega) (ev_pos hb ?_))))))
    rw [testW H ht hw (i := (i : Int)) (b := b) (by omega) (by omega) hb0 hb, testW H ht hw (i := b) (b := (i : Int)) hb0 hb (by omega) (by omega), w64n (by omega)]
    simp only [pickW] at hp
    by_cases e : rd w i * rd o b * (rd o b + 1) > rd w b * rd o i * (rd o i + 1)
    · refine ev_pos e ?_
      rw [if_pos e] at hp
      exact ih (i + 1) i (by omega) (by omega) (by omega) hp
    · refine ev_neg e ?_
      rw [if_neg e] at hp
      exact ih (i + 1) b (by omega) hb0 hb hp
theorem implS_outer (w : List Int) (hw : ∀ x ∈ w, 0 ≤ x ∧ x ≤ 100) (h0 : 0 < w.length) (hl : w.length ≤ 8) (n : Nat) (hn : n ≤ 120) : ∀ (d t : Nat) (o : List Int), Outs w o t → t + d = n →
    Ev (fun k => impl_SharesByWeights.l0 k w o n t) (dealW w d o, 0) := by
  intro d
  induction d with
  | zero =>
    intro t o H hd
    refine ev_succ ?_
    simp only [impl_SharesByWeights.l0]
    exact ev_neg (by omega) (Ev.now _)
  | succ d ih =>
    intro t o H hd
    refine ev_succ ?_
    simp only [impl_SharesByWeights.l0]
    refine ev_pos (by omega) ?_
    have hp := pickW_ok w o w.length 0 0 (by omega) (by omega) (by omega)
    refine implS_inner w o _ _ t H (by omega) hw h0 hl _ ?_ w.length 0 0 (by omega) (by omega) (by omega) rfl
    rw [w64n (by omega)]
    exact ih (t + 1) _ (H.next hp.1 hp.2) (by omega)
theorem rd_replicate1 (n i : Nat) (h : i < n) : rd (List.replicate n (1 : Int)) i = 1 := by
  rw [rd_nat, List.getD_eq_getElem?_getD, List.getElem?_replicate, if_pos h]; rfl
theorem Outs.ones (w : List Int) : Outs w (List.replicate w.length 1) 0 := by
  refine ⟨by simp, fun i hi => ?_, fun i hi => ?_⟩
  · rw [rd_replicate1 _ _ hi]; omega
  · rw [rd_replicate1 _ _ hi]; omega
theorem specS_ones (w : List Int) (n : Int) (hl : w.length ≤ 8) (hn : w.length ≤ n) (hn2 : n ≤ 120) (r : List Int × Int) (hk : Ev (fun k => spec_SharesByWeights.l1 k w (List.replicate w.length 1) (n - w.length)) r) : ∀ (d i : Nat), w.length - i = d → i ≤ w.length →
    Ev (fun k => spec_SharesByWeights.l0 k w n (List.replicate i 1) i) r := by
  intro d
  induction d with
  | zero =>
    intro i hd hi
    obtain rfl : i = w.length := by omega
    refine ev_succ ?_
    simp only [spec_SharesByWeights.l0]
    refine ev_neg (by omega) ?_
    rw [w64 (by omega) (by omega)]
    exact hk
  | succ d ih =>
    intro i hd hi
    refine ev_succ ?_
    simp only [spec_SharesByWeights.l0]
    refine ev_pos (by omega) (ev_pos (by simp; omega) ?_)
    rw [w64n (by omega), ← List.replicate_succ']
    exact ih (i + 1) (by omega) (by omega)
def sharesM (w : List Int) (n : Int) : List Int × Int :=
  if (weightsB w 0 8 && inB 1 120 n) = true then (if n < w.length then ([], 3) else (dealW w (n - w.length).toNat (List.replicate w.length 1), 0)) else ([], 2)
theorem specShares_ev (w : List Int) (n : Int) (hl : w.length ≤ 35184372088832) : Ev (fun k => spec_SharesByWeights.f k w n) (sharesM w n) := by
  unfold spec_SharesByWeights.f sharesM
  refine Ev.bind (l10Weights_ev w 0 8 (by omega) hl) ?_
  cases h : weightsB w 0 8
  · refine ev_neg (by simp) (ev_succ ?_)
    simp only [spec_SharesByWeights.j0]
    exact ev_pos trivial (ev_val (Ev.now _) (by simp))
  · obtain ⟨h1, h2, h3⟩ := (weightsB_iff w 0 8).mp h
    have h0 := sum_pos_len h2
    refine ev_pos rfl (ev_bnd (in_some _ _ _) (ev_succ ?_))
    simp only [spec_SharesByWeights.j0]
    cases hn : inB 1 120 n
    · exact ev_pos rfl (ev_val (Ev.now _) (by simp))
    · have hn' := (inB_iff _ _ _).mp hn
      refine ev_neg (by simp) ?_
      simp only [Bool.true_and, if_true]
      by_cases e : n < w.length
      · refine ev_pos e ?_
        rw [if_pos e]
        exact Ev.now _
      · refine ev_neg e ?_
        rw [if_neg e]
        refine specS_ones w n (by omega) (by omega) (by omega) _ ?_ w.length 0 (by omega) (by omega)
        obtain ⟨d, hd⟩ := nat_of (x := n - w.length) (by omega)
        rw [hd, Int.toNat_natCast]
        exact specS_outer w h1 (by omega) (by omega) d 0 _ (Outs.ones w) (by omega)
theorem implShares_ev (w : List Int) (n : Int) : Ev (fun k => impl_SharesByWeights.f k w n) (sharesM w n) := by
  unfold impl_SharesByWeights.f sharesM
  refine Ev.bind (areWeights_ev w) ?_
  cases h : weightsB w 0 8
  · refine ev_neg (by simp) (ev_succ ?_)
    simp only [impl_SharesByWeights.j0]
    exact ev_pos trivial (ev_val (Ev.now _) (by simp))
  · obtain ⟨h1, h2, h3⟩ := (weightsB_iff w 0 8).mp h
    have h0 := sum_pos_len h2
    refine ev_pos rfl (ev_bnd (within_some _ _ _) (ev_succ ?_))
    simp only [impl_SharesByWeights.j0]
    cases hn : inB 1 120 n
    · exact ev_pos rfl (ev_val (Ev.now _) (by simp))
    · have hn' := (inB_iff _ _ _).mp hn
      refine ev_neg (by simp) (ev_bnd (len_some w) ?_)
      simp only [Bool.true_and, if_true]
      by_cases e : n < w.length
      · refine ev_pos e ?_
        rw [if_pos e]
        exact Ev.now _
      · refine ev_neg e ?_
        rw [if_neg e]
        refine ev_bnd (a := List.replicate w.length 1) ?_ ?_
        · unfold slices_Repeat_int64_int64.f
          rw [if_pos (show ([1] : List Int).length = 1 from rfl), if_pos (by omega), Int.toNat_natCast]; rfl
        obtain ⟨d, hd⟩ := nat_of (x := n - w.length) (by omega)
        rw [w64 (by omega) (by omega), hd, Int.toNat_natCast]
        exact implS_outer w h1 (by omega) (by omega) d (by omega) d 0 _ (Outs.ones w) (by omega)
theorem dealW_length (w : List Int) : ∀ (d : Nat) (o : List Int), (dealW w d o).length = o.length := by
  intro d
  induction d with
  | zero => intro o; rfl
  | succ d ih => intro o; rw [dealW, ih]; simp
theorem sharesM_length (w : List Int) (n : Int) : (sharesM w n).1.length ≤ 120 := by
  unfold sharesM
  split
  · rename_i h
    rw [Bool.and_eq_true] at h
    obtain ⟨h1, h2, h3⟩ := (weightsB_iff w 0 8).mp h.1
    split
    · simp
    · show (dealW w _ _).length ≤ 120
      rw [dealW_length]
      simp
      omega
  · simp

/-! means by weights -/
def missGo (l w : List Int) : Nat → Nat → Bool
  | 0, _ => false
  | f + 1, i => if rd w i > 0 then (if decide ((i : Int) ∈ l) = true then missGo l w f (i + 1) else true) else missGo l w f (i + 1)
def wsumGo (l w : List Int) : Nat → Nat → Int → Int
  | 0, _, a => a
  | f + 1, i, a => if rd w i > 0 then wsumGo l w f (i + 1) (a + rd w i * sumGo l i i l.length 0 0) else wsumGo l w f (i + 1) a
def meanWM (l w : List Int) : Int × Int × Int :=
  if (turnsB l 8 && weightsB w 0 8) = true then (if missGo l w w.length 0 = true then (0, 0, 4) else lowM (wsumGo l w w.length 0 0).toNat (w.sum * l.length).toNat) else (0, 0, 2)
theorem missGo_mem (l w : List Int) : ∀ (f i : Nat), missGo l w f i = false → ∀ j, i ≤ j → j < i + f → rd w j > 0 → (j : Int) ∈ l := by
  intro f
  induction f with
  | zero => intro i h j h1 h2; omega
  | succ f ih =>
    intro i h j h1 h2 h3
    simp only [missGo] at h
    rcases Nat.eq_or_lt_of_le h1 with rfl | h1
    · rw [if_pos h3] at h
      by_cases hm : (i : Int) ∈ l
      · exact hm
      · rw [decide_eq_false hm] at h; simp at h
    · refine ih (i + 1) ?_ j h1 (by omega) h3
      split at h
      · split at h
        · exact h
        · cases h
      · exact h
theorem wstep_b {x s : Int} (hx : 0 ≤ x) (hx2 : x ≤ 100) (hs : 0 ≤ s) (hs2 : s ≤ 14400) : 0 ≤ x * s ∧ x * s ≤ 1440000 := by
  refine ⟨Int.mul_nonneg hx hs, ?_⟩
  calc x * s ≤ 100 * 14400 := Int.mul_le_mul hx2 hs2 hs (by omega)
    _ = 1440000 := by decide
theorem sum_b (l : List Int) (i : Int) (hi : i ∈ l) (hl : l.length ≤ 120) : 0 ≤ sumGo l i i l.length 0 0 ∧ sumGo l i i l.length 0 0 ≤ 14400 := by
  have := sumGo_b l i i hi hi hl l.length 0 0 (by omega) (by omega) (by omega)
  omega
theorem wsumGo_b (l w : List Int) (hw : ∀ x ∈ w, 0 ≤ x ∧ x ≤ 100) (hl : l.length ≤ 120) (hm : ∀ j : Nat, j < w.length → rd w j > 0 → (j : Int) ∈ l) : ∀ (f i : Nat) (a : Int), w.length - i = f → i ≤ w.length → 0 ≤ a → a ≤ 1440000 * i → 0 ≤ wsumGo l w f i a ∧ wsumGo l w f i a ≤ 1440000 * w.length := by
  intro f
  induction f with
  | zero => intro i a hf hi h1 h2; simp only [wsumGo]; omega
  | succ f ih =>
    intro i a hf hi h1 h2
    simp only [wsumGo]
    have hx := hw _ (rd_mem (l := w) (i := i) (by omega))
    split
    · rename_i hp
      have hs := sum_b l i (hm i (by omega) hp) hl
      have := wstep_b hx.1 hx.2 hs.1 hs.2
      exact ih (i + 1) _ (by omega) (by omega) (by omega) (by omega)
    · exact ih (i + 1) _ (by omega) (by omega) (by omega) (by omega)
theorem sum_drop (w : List Int) (i : Nat) (h : i < w.length) : (w.drop i).sum = rd w i + (w.drop (i + 1)).sum := by rw [drop_cons h, List.sum_cons]
theorem codeM_nil (l : List Int) (ok : Bool) : codeM l ok [] = if (turnsB l 8 && ok) = true then 0 else 2 := by
  unfold codeM
  simp
end Go.Proofs.Ytdleajokhhijhaa.Sb
