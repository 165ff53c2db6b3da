/- Shares: the reference's and the program's look at them; the turns out of them; means at equal distances. -/
import Derived.Test.YtdleajokhhijhaaPx1
import Derived.Test.YtdleajokhhijhaaPx2
import Derived.Test.YtdleajokhhijhaaPx3
import Derived.Test.YtdleajokhhijhaaPuLaws
set_option linter.unusedVariables false
set_option linter.unusedSimpArgs false
namespace Go.Proofs.Ytdleajokhhijhaa.Pb
open Go.RowKit Go.Proofs.YtdleajokhhijhaaW.PrintWords Go.Proofs.YtdleajokhhijhaaW.PrintLast Go.Proofs.Ytdleajokhhijhaa.P

theorem in_some (a b c : Int) : spec_l01In.f a b c = some (inB b c a) := by
  unfold spec_l01In.f inB
  by_cases h : a ≥ b
  · rw [if_pos h, decide_eq_true (show b ≤ a from h), Bool.true_and]
  · rw [if_neg h, decide_eq_false (show ¬ b ≤ a from h), Bool.false_and]
theorem inB_iff (a b c : Int) : inB b c a = true ↔ b ≤ a ∧ a ≤ c := by simp [inB]
theorem sum_le (l : List Int) (c : Int) (h : ∀ x ∈ l, x ≤ c) : l.sum ≤ c * l.length := by
  induction l with
  | nil => simp
  | cons x l ih =>
    have h1 := h x (by simp)
    have h2 := ih (fun y hy => h y (by simp [hy]))
    simp only [List.sum_cons, List.length_cons, Int.natCast_add, Int.mul_add]
    omega
theorem sum_ge (l : List Int) (c : Int) (h : ∀ x ∈ l, c ≤ x) : c * l.length ≤ l.sum := by
  induction l with
  | nil => simp
  | cons x l ih =>
    have h1 := h x (by simp)
    have h2 := ih (fun y hy => h y (by simp [hy]))
    simp only [List.sum_cons, List.length_cons, Int.natCast_add, Int.mul_add]
    omega
def sharesOk (l : List Int) : Bool := inB 1 8 l.length && l.all (inB 1 120) && decide (l.sum ≤ 120)

theorem l10Shares_loop (l : List Int) (hl : l.length ≤ 35184372088832) : ∀ (suf : List Int) (i : Nat) (acc : Int), l.drop i = suf → 0 ≤ acc → acc ≤ 120 * i →
    Ev (fun k => spec_l10Shares.l0 k l acc i) (if suf.all (inB 1 120) = true then (if l.length ≤ 8 ∧ acc + suf.sum ≤ 120 then acc + suf.sum else 0) else 0) := by
  intro suf
  induction suf with
  | nil =>
    intro i acc h h0 h1
    have hi := drop_nil h
    refine ev_succ ?_
    simp only [spec_l10Shares.l0]
    refine ev_neg (by omega) ?_
    simp only [List.all_nil, if_true, List.sum_nil, Int.add_zero]
    by_cases h8 : l.length ≤ 8
    · refine ev_neg (by omega) ?_
      by_cases h2 : acc ≤ 120
      · refine ev_neg (by omega) (ev_val (Ev.now _) (by rw [if_pos ⟨h8, h2⟩]))
      · refine ev_pos (by omega) (ev_val (Ev.now _) (by rw [if_neg (by omega)]))
    · refine ev_pos (by omega) (ev_val (Ev.now _) (by rw [if_neg (by omega)]))
  | cons x suf ih =>
    intro i acc h h0 h1
    obtain ⟨hi, hx, hs⟩ := drop_split h
    refine ev_succ ?_
    simp only [spec_l10Shares.l0]
    refine ev_pos (by omega) (ev_pos (by omega) (ev_bnd (in_some _ _ _) ?_))
    rw [hx]
    by_cases hb : inB 1 120 x = true
    · refine ev_pos hb ?_
      have hb' := (inB_iff _ _ _).mp hb
      rw [w64n (by omega), w64 (by omega) (by omega)]
      refine ev_val (ih (i + 1) (acc + x) hs (by omega) (by omega)) ?_
      rw [List.all_cons, hb, Bool.true_and, show (x :: suf).sum = x + suf.sum from List.sum_cons, ← Int.add_assoc]
    · refine ev_neg hb (ev_val (Ev.now _) ?_)
      simp [List.all_cons, hb]
theorem all_iff (l : List Int) (a b : Int) : l.all (inB a b) = true ↔ ∀ x ∈ l, a ≤ x ∧ x ≤ b := by simp [List.all_eq_true, inB_iff]
theorem sum_empty {l : List Int} (h : l.length = 0) : l.sum = 0 := by rw [List.eq_nil_of_length_eq_zero h]; rfl
theorem l10Shares_ev (l : List Int) (hl : l.length ≤ 35184372088832) : Ev (fun k => spec_l10Shares.f k l) (if sharesOk l = true then l.sum else 0) := by
  unfold spec_l10Shares.f
  refine ev_val (l10Shares_loop l hl l 0 0 (by simp) (by omega) (by omega)) ?_
  simp only [Int.zero_add]
  unfold sharesOk
  by_cases h1 : l.all (inB 1 120) = true
  · rw [if_pos h1, h1]
    by_cases h0 : l.length = 0
    · rw [sum_empty h0]; simp
    · by_cases h2 : l.length ≤ 8 ∧ l.sum ≤ 120
      · rw [if_pos h2, if_pos]
        simp [inB]; omega
      · rw [if_neg h2, if_neg]
        simp [inB]; omega
  · rw [if_neg h1, if_neg]
    simp [h1]

theorem total_loop (l : List Int) (hl : l.length ≤ 1000) (hb : ∀ x ∈ l, -1000000000 ≤ x ∧ x ≤ 1000000000) : ∀ (suf : List Int) (i : Nat) (acc : Int), l.drop i = suf → -1000000000 * i ≤ acc → acc ≤ 1000000000 * i →
    Ev (fun k => impl_total.l0 k acc l l.length i) (acc + suf.sum) := by
  intro suf
  induction suf with
  | nil =>
    intro i acc h h0 h1
    have hi := drop_nil h
    refine ev_succ ?_
    simp only [impl_total.l0]
    exact ev_neg (by omega) (ev_val (Ev.now _) (by simp))
  | cons x suf ih =>
    intro i acc h h0 h1
    obtain ⟨hi, hx, hs⟩ := drop_split h
    have hbx := hb x (by rw [← hx]; exact rd_mem hi)
    refine ev_succ ?_
    simp only [impl_total.l0]
    refine ev_pos (by omega) (ev_pos (by omega) (ev_pos (by omega) ?_))
    rw [hx, w64n (by omega), w64 (by omega) (by omega)]
    refine ev_val (ih (i + 1) (acc + x) hs (by omega) (by omega)) ?_
    rw [List.sum_cons, Int.add_assoc]
theorem total_ev (l : List Int) (hl : l.length ≤ 1000) (hb : ∀ x ∈ l, -1000000000 ≤ x ∧ x ≤ 1000000000) : Ev (fun k => impl_total.f k l) l.sum := by
  unfold impl_total.f
  exact ev_val (total_loop l hl hb l 0 0 (by simp) (by omega) (by omega)) (by simp)
theorem areSharesOf_ev (l : List Int) : Ev (fun k => impl_areSharesOf.f k l) (sharesOk l) := by
  unfold impl_areSharesOf.f sharesOk
  by_cases h1 : inB 1 8 (l.length : Int) = true
  · refine ev_pos h1 ?_
    have h1' := (inB_iff _ _ _).mp h1
    by_cases h2 : l.all (inB 1 120) = true
    · refine ev_pos h2 ?_
      have h2' := (all_iff l 1 120).mp h2
      refine Ev.bind (total_ev l (by omega) (fun x hx => by have := h2' x hx; omega)) (ev_val (Ev.now _) ?_)
      rw [h1, h2]; rfl
    · refine ev_neg h2 (ev_val (Ev.now _) ?_)
      simp [h2]
  · refine ev_neg h1 (ev_val (Ev.now _) ?_)
    simp [h1]

/-! the turns out of shares -/
def pick (s h : List Int) : Nat → Nat → Int → Int
  | 0, _, b => b
  | d + 1, i, b => pick s h d (i + 1) (if rd h i = rd s i then b else if b < 0 then (i : Int) else if (2 * rd h i + 1) * rd s b < (2 * rd h b + 1) * rd s i then (i : Int) else b)
structure Had (s h : List Int) : Prop where
  len : h.length = s.length
  lo : ∀ i : Nat, i < s.length → 0 ≤ rd h i
  hi : ∀ i : Nat, i < s.length → rd h i ≤ rd s i
theorem pick_ok (s h : List Int) : ∀ (d i : Nat) (b : Int), s.length - i = d → (b = -1 ∨ (0 ≤ b ∧ b < s.length ∧ rd h b ≠ rd s b)) → (∃ j : Nat, i ≤ j ∧ j < s.length ∧ rd h j ≠ rd s j) ∨ 0 ≤ b →
    0 ≤ pick s h d i b ∧ pick s h d i b < s.length ∧ rd h (pick s h d i b) ≠ rd s (pick s h d i b) := by
  intro d
  induction d with
  | zero =>
    intro i b hd hb he
    simp only [pick]
    rcases he with ⟨j, h1, h2, _⟩ | he
    · omega
    · rcases hb with rfl | hb
      · omega
      · exact hb
  | succ d ih =>
    intro i b hd hb he
    simp only [pick]
    by_cases e : rd h i = rd s i
    · rw [if_pos e]
      refine ih (i + 1) b (by clear he; omega) hb ?_
      rcases he with ⟨j, h1, h2, h3⟩ | he
      · left
        refine ⟨j, ?_, h2, h3⟩
        rcases Nat.eq_or_lt_of_le h1 with rfl | h1
        · exact absurd e h3
        · exact h1
      · exact .inr he
    · rw [if_neg e]
      have hi : 0 ≤ (i : Int) ∧ (i : Int) < s.length ∧ rd h (i : Int) ≠ rd s (i : Int) := ⟨by omega, by clear he; omega, e⟩
      by_cases hb0 : b < 0
      · rw [if_pos hb0]
        exact ih (i + 1) i (by clear he; omega) (.inr hi) (.inr hi.1)
      · rw [if_neg hb0]
        split
        · exact ih (i + 1) i (by clear he; omega) (.inr hi) (.inr hi.1)
        · exact ih (i + 1) b (by clear he; omega) hb (.inr (by clear he; omega))
def deal (s : List Int) : Nat → List Int → List Int → List Int
  | 0, _, out => out
  | d + 1, h, out => deal s d (h.set (pick s h s.length 0 (-1)).toNat (rd h (pick s h s.length 0 (-1)) + 1)) (out ++ [pick s h s.length 0 (-1)])
theorem sum_set (l : List Int) (i : Nat) (v : Int) (h : i < l.length) : (l.set i v).sum = l.sum - rd l i + v := by
  induction l generalizing i with
  | nil => simp at h
  | cons x l ih =>
    cases i with
    | zero => simp [rd]; omega
    | succ i =>
      have := ih i (by simpa using h)
      rw [rd_nat] at this ⊢
      simp only [List.set_cons_succ, List.sum_cons, List.getD_cons_succ]
      omega
theorem rd_set (l : List Int) (i j : Nat) (v : Int) (h : i < l.length) : rd (l.set i v) j = if j = i then v else rd l j := by
  rw [rd_nat, rd_nat, List.getD_eq_getElem?_getD, List.getD_eq_getElem?_getD, List.getElem?_set]
  by_cases e : i = j
  · subst e
    simp [h]
  · rw [if_neg e, if_neg (fun h => e h.symm)]
theorem sum_eq_of (a b : List Int) (hl : a.length = b.length) (h : ∀ i : Nat, i < b.length → rd a i = rd b i) : a = b := by
  apply List.ext_getElem hl
  intro i h1 h2
  have := h i h2
  rwa [rd_lt h1, rd_lt h2] at this
theorem Had.some {s h : List Int} (H : Had s h) (hne : h.sum ≠ s.sum) : ∃ j : Nat, 0 ≤ j ∧ j < s.length ∧ rd h j ≠ rd s j := by
  by_cases h' : ∀ i : Nat, i < s.length → rd h i = rd s i
  · exact absurd (by rw [sum_eq_of h s H.len h']) hne
  · rw [Classical.not_forall] at h'
    obtain ⟨j, hj⟩ := h'
    rw [Classical.not_imp] at hj
    exact ⟨j, by omega, hj.1, hj.2⟩
theorem toNat_rd (l : List Int) {b : Int} (h : 0 ≤ b) : rd l b = rd l (b.toNat : Int) := by rw [Int.toNat_of_nonneg h]
theorem Had.next {s h : List Int} (H : Had s h) {b : Int} (h0 : 0 ≤ b) (h1 : b < s.length) (hne : rd h b ≠ rd s b) : Had s (h.set b.toNat (rd h b + 1)) := by
  have hl := H.len
  have hb1 := H.hi b.toNat (by omega)
  have hb0 := H.lo b.toNat (by omega)
  rw [toNat_rd h h0, toNat_rd s h0] at hne
  rw [toNat_rd h h0]
  refine ⟨by simpa using hl, ?_, ?_⟩
  · intro i hi
    rw [rd_set _ _ _ _ (by omega)]
    split
    · omega
    · exact H.lo i hi
  · intro i hi
    rw [rd_set _ _ _ _ (by omega)]
    split
    · rename_i e; subst e; omega
    · exact H.hi i hi
theorem mul_small {a b : Int} (ha : 0 ≤ a) (ha2 : a ≤ 1000) (hb : 0 ≤ b) (hb2 : b ≤ 1000) : 0 ≤ a * b ∧ a * b ≤ 1000000 := by
  refine ⟨Int.mul_nonneg ha hb, ?_⟩
  calc a * b ≤ 1000 * 1000 := Int.mul_le_mul ha2 hb2 hb (by omega)
    _ = 1000000 := by decide
theorem test_eq {s h : List Int} (H : Had s h) (hs : ∀ x ∈ s, 1 ≤ x ∧ x ≤ 120) {i b : Int} (hi0 : 0 ≤ i) (hi : i < s.length) (hb0 : 0 ≤ b) (hb : b < s.length) :
    wrap64 ((wrap64 ((wrap64 (2 * (rd h i))) + 1)) * (rd s b)) = (2 * rd h i + 1) * rd s b := by
  have h1 := H.lo i.toNat (by omega)
  have h2 := H.hi i.toNat (by omega)
  have h3 := hs _ (rd_mem (l := s) (i := i.toNat) (by omega))
  have h4 := hs _ (rd_mem (l := s) (i := b.toNat) (by omega))
  rw [← toNat_rd _ hi0] at h1 h2 h3
  rw [← toNat_rd _ hi0] at h2
  rw [← toNat_rd _ hb0] at h4
  rw [w64 (x := 2 * rd h i) (by omega) (by omega), w64 (x := 2 * rd h i + 1) (by omega) (by omega)]
  have := mul_small (a := 2 * rd h i + 1) (b := rd s b) (by omega) (by omega) (by omega) (by omega)
  exact w64 (by omega) (by omega)

theorem specT_inner (s h out : List Int) (n slot : Int) (hs : ∀ x ∈ s, 1 ≤ x ∧ x ≤ 120) (hl : s.length ≤ 8) (H : Had s h) (hlen : out.length ≤ 1000) (hlt : h.sum ≠ s.sum) (r : List Int × Int)
    (hk : ∀ b, b = pick s h s.length 0 (-1) → Ev (fun k => spec_TurnsFromShares.l0 k s n (out ++ [b]) (h.set b.toNat (rd h b + 1)) (wrap64 (slot + 1))) r) :
    ∀ (d i : Nat) (b : Int), s.length - i = d → (b = -1 ∨ (0 ≤ b ∧ b < s.length ∧ rd h b ≠ rd s b)) → pick s h d i b = pick s h s.length 0 (-1) →
    Ev (fun k => spec_TurnsFromShares.l1 k s n out h slot b i) r := by
  have hp := pick_ok s h s.length 0 (-1) (by omega) (.inl rfl) (.inl (H.some hlt))
  have hlh := H.len
  intro d
  induction d with
  | zero =>
    intro i b hd hb hpk
    simp only [pick] at hpk
    subst hpk
    refine ev_succ ?_
    simp only [spec_TurnsFromShares.l1]
    refine ev_neg (by omega) (ev_pos hp.1 (ev_pos (by omega) (ev_pos (by omega) ?_)))
    have h2 := H.hi (pick s h s.length 0 (-1)).toNat (by omega)
    have h1 := H.lo (pick s h s.length 0 (-1)).toNat (by omega)
    have h3 := hs _ (rd_mem (l := s) (i := (pick s h s.length 0 (-1)).toNat) (by omega))
    rw [← toNat_rd _ hp.1] at h1 h2 h3
    rw [← toNat_rd _ hp.1] at h2
    rw [w64 (x := rd h (pick s h s.length 0 (-1)) + 1) (by omega) (by omega)]
    exact hk _ rfl
  | succ d ih =>
    intro i b hd hb hpk
    refine ev_succ ?_
    simp only [spec_TurnsFromShares.l1]
    refine ev_pos (by omega) (ev_pos (by omega) (ev_pos (by omega) ?_))
    simp only [pick] at hpk
    by_cases e : rd h i = rd s i
    · refine ev_pos e ?_
      rw [if_pos e] at hpk
      rw [w64n (by omega)]
      exact ih (i + 1) b (by omega) hb hpk
    · refine ev_neg e ?_
      rw [if_neg e] at hpk
      have hi' : 0 ≤ (i : Int) ∧ (i : Int) < s.length ∧ rd h (i : Int) ≠ rd s (i : Int) := ⟨by omega, by omega, e⟩
      by_cases hb0 : b < 0
      · refine ev_pos hb0 ?_
        rw [if_pos hb0] at hpk
        rw [w64n (by omega)]
        exact ih (i + 1) i (by omega) (.inr hi') hpk
      · refine ev_neg hb0 ?_
        rw [if_neg hb0] at hpk
        have hb' : 0 ≤ b ∧ b < s.length ∧ rd h b ≠ rd s b := by rcases hb with rfl | hb; (omega); exact hb
        refine ev_pos (by omega) (ev_pos (by omega) (ev_pos (by omega) ?_))
        rw [test_eq H hs (i := i) (b := b) (by omega) (by omega) (by omega) (by omega), test_eq H hs (i := b) (b := i) (by omega) (by omega) (by omega) (by omega), w64n (by omega)]
        by_cases hc : (2 * rd h i + 1) * rd s b < (2 * rd h b + 1) * rd s i
        · refine ev_pos hc ?_
          rw [if_pos hc] at hpk
          exact ih (i + 1) i (by omega) (.inr hi') hpk
        · refine ev_neg hc ?_
          rw [if_neg hc] at hpk
          exact ih (i + 1) b (by omega) hb hpk
theorem specT_outer (s : List Int) (hs : ∀ x ∈ s, 1 ≤ x ∧ x ≤ 120) (hl : s.length ≤ 8) (hn : s.sum ≤ 120) : ∀ (d : Nat) (h out : List Int), Had s h → s.sum - h.sum = d → 0 ≤ h.sum → (out.length : Int) = h.sum →
    Ev (fun k => spec_TurnsFromShares.l0 k s s.sum out h h.sum) (deal s d h out, 0) := by
  intro d
  induction d with
  | zero =>
    intro h out H hd h0 ho
    refine ev_succ ?_
    simp only [spec_TurnsFromShares.l0]
    exact ev_neg (by omega) (Ev.now _)
  | succ d ih =>
    intro h out H hd h0 ho
    refine ev_succ ?_
    simp only [spec_TurnsFromShares.l0]
    refine ev_pos (by omega) ?_
    have hlh := H.len
    have hp := pick_ok s h s.length 0 (-1) (by omega) (.inl rfl) (.inl (H.some (by omega)))
    have hsum := sum_set h (pick s h s.length 0 (-1)).toNat (rd h (pick s h s.length 0 (-1)) + 1) (by omega)
    rw [← toNat_rd _ hp.1] at hsum
    refine specT_inner s h out s.sum h.sum hs hl H (by omega) (by omega) _ ?_ s.length 0 (-1) (by omega) (.inl rfl) rfl
    rintro b rfl
    rw [w64 (by omega) (by omega), show h.sum + 1 = (h.set (pick s h s.length 0 (-1)).toNat (rd h (pick s h s.length 0 (-1)) + 1)).sum by omega]
    exact ih _ _ (H.next hp.1 hp.2.1 hp.2.2) (by omega) (by omega) (by simp; omega)
theorem sum_replicate0 (n : Nat) : (List.replicate n (0 : Int)).sum = 0 := by
  induction n with
  | zero => rfl
  | succ n ih => rw [List.replicate_succ, List.sum_cons, ih]; rfl
theorem rd_replicate0 (n i : Nat) : rd (List.replicate n (0 : Int)) i = 0 := by
  rw [rd_nat, List.getD_eq_getElem?_getD, List.getElem?_replicate]
  split <;> rfl
theorem Had.zero {s : List Int} (hs : ∀ x ∈ s, 1 ≤ x ∧ x ≤ 120) : Had s (List.replicate s.length 0) := by
  refine ⟨by simp, fun i hi => by rw [rd_replicate0]; omega, fun i hi => ?_⟩
  rw [rd_replicate0]
  have := hs _ (rd_mem hi)
  omega
def dealt (s : List Int) : List Int × Int := if sharesOk s = true then (deal s s.sum.toNat (List.replicate s.length 0) [], 0) else ([], 2)
theorem sharesOk_iff (s : List Int) : sharesOk s = true ↔ (1 ≤ s.length ∧ s.length ≤ 8) ∧ (∀ x ∈ s, 1 ≤ x ∧ x ≤ 120) ∧ s.sum ≤ 120 := by
  unfold sharesOk
  simp only [Bool.and_eq_true, inB_iff, all_iff, decide_eq_true_eq]
  constructor
  · rintro ⟨⟨h1, h2⟩, h3⟩; exact ⟨by omega, h2, h3⟩
  · rintro ⟨h1, h2, h3⟩; exact ⟨⟨by omega, h2⟩, h3⟩
theorem sharesOk_pos {s : List Int} (h : sharesOk s = true) : 1 ≤ s.sum := by
  obtain ⟨h1, h2, h3⟩ := (sharesOk_iff s).mp h
  have := sum_ge s 1 (fun x hx => (h2 x hx).1)
  omega
theorem specTurns_ev (s : List Int) (hl : s.length ≤ 35184372088832) : Ev (fun k => spec_TurnsFromShares.f k s) (dealt s) := by
  unfold spec_TurnsFromShares.f dealt
  refine Ev.bind (l10Shares_ev s hl) ?_
  by_cases h : sharesOk s = true
  · simp only [if_pos h]
    obtain ⟨h1, h2, h3⟩ := (sharesOk_iff s).mp h
    have hp := sharesOk_pos h
    refine ev_neg (by omega) (ev_pos (by omega) (ev_pos (by omega) ?_))
    rw [Int.toNat_natCast]
    have := specT_outer s h2 h1.2 h3 s.sum.toNat (List.replicate s.length 0) [] (Had.zero h2) (by rw [sum_replicate0]; omega) (by rw [sum_replicate0]; omega) (by rw [sum_replicate0]; rfl)
    rw [sum_replicate0] at this
    exact this
  · simp only [if_neg h]
    exact ev_pos trivial (Ev.now _)

theorem implT_inner (s h out : List Int) (n slot : Int) (hs : ∀ x ∈ s, 1 ≤ x ∧ x ≤ 120) (hl : s.length ≤ 8) (H : Had s h) (hlen : out.length ≤ 1000) (hlt : h.sum ≠ s.sum) (r : List Int × Int)
    (hk : ∀ b, b = pick s h s.length 0 (-1) → Ev (fun k => impl_TurnsFromShares.l0 k s (h.set b.toNat (rd h b + 1)) (out ++ [b]) n (wrap64 (slot + 1))) r) :
    ∀ (d i : Nat) (b : Int), s.length - i = d → (b = -1 ∨ (0 ≤ b ∧ b < s.length ∧ rd h b ≠ rd s b)) → pick s h d i b = pick s h s.length 0 (-1) →
    Ev (fun k => impl_TurnsFromShares.l1 k s h out b n slot s s.length i) r := by
  have hp := pick_ok s h s.length 0 (-1) (by omega) (.inl rfl) (.inl (H.some hlt))
  have hlh := H.len
  intro d
  induction d with
  | zero =>
    intro i b hd hb hpk
    simp only [pick] at hpk
    subst hpk
    refine ev_succ ?_
    simp only [impl_TurnsFromShares.l1]
    refine ev_neg (by omega) (ev_pos hp.1 (ev_pos (by omega) (ev_pos (by omega) ?_)))
    have h2 := H.hi (pick s h s.length 0 (-1)).toNat (by omega)
    have h1 := H.lo (pick s h s.length 0 (-1)).toNat (by omega)
    have h3 := hs _ (rd_mem (l := s) (i := (pick s h s.length 0 (-1)).toNat) (by omega))
    rw [← toNat_rd _ hp.1] at h1 h2 h3
    rw [← toNat_rd _ hp.1] at h2
    rw [w64 (x := rd h (pick s h s.length 0 (-1)) + 1) (by omega) (by omega)]
    exact hk _ rfl
  | succ d ih =>
    intro i b hd hb hpk
    refine ev_succ ?_
    simp only [impl_TurnsFromShares.l1]
    refine ev_pos (by omega) (ev_pos (by omega) (ev_pos (by omega) (ev_pos (by omega) ?_)))
    simp only [pick] at hpk
    have hle := H.hi i (by omega)
    by_cases e : rd h i = rd s i
    · refine ev_neg (by omega) ?_
      rw [if_pos e] at hpk
      rw [w64n (by omega)]
      exact ih (i + 1) b (by omega) hb hpk
    · refine ev_pos (by omega) ?_
      rw [if_neg e] at hpk
      have hi' : 0 ≤ (i : Int) ∧ (i : Int) < s.length ∧ rd h (i : Int) ≠ rd s (i : Int) := ⟨by omega, by omega, e⟩
      rcases hb with rfl | hb'
      · refine ev_pos rfl ?_
        rw [if_pos (by omega)] at hpk
        rw [w64n (by omega)]
        exact ih (i + 1) i (by omega) (.inr hi') hpk
      · refine ev_neg (by omega) ?_
        rw [if_neg (by omega)] at hpk
        refine ev_pos (by omega) (ev_pos (by omega) (ev_pos (by omega) ?_))
        rw [test_eq H hs (i := i) (b := b) (by omega) (by omega) (by omega) (by omega), test_eq H hs (i := b) (b := i) (by omega) (by omega) (by omega) (by omega), w64n (by omega)]
        by_cases hc : (2 * rd h i + 1) * rd s b < (2 * rd h b + 1) * rd s i
        · refine ev_pos hc ?_
          rw [if_pos hc] at hpk
          exact ih (i + 1) i (by omega) (.inr hi') hpk
        · refine ev_neg hc ?_
          rw [if_neg hc] at hpk
          exact ih (i + 1) b (by omega) (.inr hb') hpk
theorem implT_outer (s : List Int) (hs : ∀ x ∈ s, 1 ≤ x ∧ x ≤ 120) (hl : s.length ≤ 8) (hn : s.sum ≤ 120) : ∀ (d : Nat) (h out : List Int), Had s h → s.sum - h.sum = d → 0 ≤ h.sum → (out.length : Int) = h.sum →
    Ev (fun k => impl_TurnsFromShares.l0 k s h out s.sum h.sum) (deal s d h out, 0) := by
  intro d
  induction d with
  | zero =>
    intro h out H hd h0 ho
    refine ev_succ ?_
    simp only [impl_TurnsFromShares.l0]
    exact ev_neg (by omega) (Ev.now _)
  | succ d ih =>
    intro h out H hd h0 ho
    refine ev_succ ?_
    simp only [impl_TurnsFromShares.l0]
    refine ev_pos (by omega) ?_
    have hlh := H.len
    have hp := pick_ok s h s.length 0 (-1) (by omega) (.inl rfl) (.inl (H.some (by omega)))
    have hsum := sum_set h (pick s h s.length 0 (-1)).toNat (rd h (pick s h s.length 0 (-1)) + 1) (by omega)
    rw [← toNat_rd _ hp.1] at hsum
    refine implT_inner s h out s.sum h.sum hs hl H (by omega) (by omega) _ ?_ s.length 0 (-1) (by omega) (.inl rfl) rfl
    rintro b rfl
    rw [w64 (by omega) (by omega), show h.sum + 1 = (h.set (pick s h s.length 0 (-1)).toNat (rd h (pick s h s.length 0 (-1)) + 1)).sum by omega]
    exact ih _ _ (H.next hp.1 hp.2.1 hp.2.2) (by omega) (by omega) (by simp; omega)
theorem implTurns_ev (s : List Int) : Ev (fun k => impl_TurnsFromShares.f k s) (dealt s) := by
  unfold impl_TurnsFromShares.f dealt
  refine Ev.bind (areSharesOf_ev s) ?_
  by_cases h : sharesOk s = true
  · simp only [if_pos h]
    obtain ⟨h1, h2, h3⟩ := (sharesOk_iff s).mp h
    have hp := sharesOk_pos h
    refine (ev_pos (by omega) (ev_pos (by omega) ?_))
    refine Ev.bind (total_ev s (by omega) (fun x hx => by have := h2 x hx; omega)) ?_
    rw [Int.toNat_natCast]
    have := implT_outer s h2 h1.2 h3 s.sum.toNat (List.replicate s.length 0) [] (Had.zero h2) (by rw [sum_replicate0]; omega) (by rw [sum_replicate0]; omega) (by rw [sum_replicate0]; rfl)
    rw [sum_replicate0] at this
    exact this
  · simp only [if_neg h]
    exact (Ev.now _)
theorem deal_length (s : List Int) : ∀ (d : Nat) (h out : List Int), (deal s d h out).length = out.length + d := by
  intro d
  induction d with
  | zero => intro h out; rfl
  | succ d ih => intro h out; rw [deal, ih]; simp; omega
theorem dealt_length (s : List Int) : (dealt s).1.length ≤ 120 := by
  unfold dealt
  split
  · rename_i h
    obtain ⟨h1, h2, h3⟩ := (sharesOk_iff s).mp h
    have hp := sharesOk_pos h
    show (deal s s.sum.toNat _ []).length ≤ 120
    rw [deal_length]
    simp
    omega
  · simp
end Go.Proofs.Ytdleajokhhijhaa.Pb
