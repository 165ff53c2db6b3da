/- Orders by deadlines: two insertions are one. -/
import Derived.Test.YtmgdobiloapelaaQJobs
set_option linter.unusedVariables false
set_option linter.unnecessarySimpa false
set_option linter.unusedSimpArgs false
namespace Go.Proofs.Ytmgdobiloapelaa.Vf
open Go Go.V Go.RowKit

/-- i goes in behind the last one that is not above it; the first list is reversed. -/
def insR (D : List Int) (i : Int) : List Int → List Int → List Int
  | [], suf => i :: suf
  | p :: ps, suf => if rd D i < rd D p then insR D i ps (p :: suf) else ps.reverse ++ p :: i :: suf

theorem insR_len (D : List Int) (i : Int) : ∀ (ps suf : List Int), (insR D i ps suf).length = ps.length + suf.length + 1
  | [], suf => by simp [insR]
  | p :: ps, suf => by
    simp only [insR]
    by_cases h : rd D i < rd D p
    · rw [if_pos h, insR_len D i ps]; simp; omega
    · rw [if_neg h]; simp; omega

theorem insR_mem (D : List Int) (i : Int) : ∀ (ps suf : List Int) (x : Int), x ∈ insR D i ps suf ↔ x = i ∨ x ∈ ps ∨ x ∈ suf
  | [], suf, x => by simp [insR]
  | p :: ps, suf, x => by
    simp only [insR]
    by_cases h : rd D i < rd D p
    · rw [if_pos h, insR_mem D i ps, List.mem_cons, List.mem_cons]
      constructor
      · rintro (h | h | h | h) <;> simp [h]
      · rintro (h | (h | h) | h) <;> simp [h]
    · rw [if_neg h, List.mem_append, List.mem_cons, List.mem_cons, List.mem_cons, List.mem_reverse]
      constructor
      · rintro (h | h | h | h) <;> simp [h]
      · rintro (h | (h | h) | h) <;> simp [h]

def sortN (D : List Int) : Nat → List Int
  | 0 => []
  | i + 1 => insR D (i : Int) (sortN D i).reverse []

theorem sortN_len (D : List Int) : ∀ n, (sortN D n).length = n
  | 0 => rfl
  | n + 1 => by simp only [sortN]; rw [insR_len]; simp [sortN_len D n]
theorem sortN_mem (D : List Int) : ∀ n, ∀ x ∈ sortN D n, 0 ≤ x ∧ x < (n : Int)
  | 0, x, h => by simp [sortN] at h
  | n + 1, x, h => by
    simp only [sortN] at h
    rw [insR_mem] at h
    rcases h with h | h | h
    · omega
    · have := sortN_mem D n x (List.mem_reverse.1 h); omega
    · simp at h

theorem rd_app {a b : List Int} {x : Int} : rd (a ++ x :: b) (a.length : Int) = x := by
  rw [rd_nat]; simp [List.getD_eq_getElem?_getD]
theorem set_app {a b : List Int} {x y : Int} : (a ++ x :: b).set a.length y = a ++ y :: b := by
  rw [List.set_append_right _ _ (Nat.le_refl _), Nat.sub_self, List.set_cons_zero]

/-! ### The reference -/

theorem specO_in {k : Nat} {L P D : List Int} {i : Nat} (hi : i < D.length) (hl : D.length ≤ 8) {r0 : (List Int) → (List Int) → (List Int) → (List Int) → Int → Option ((List Int) × Int)} : ∀ (ps suf : List Int) (g : Int) (n : Nat), ps.length < n → ps.length + suf.length ≤ 8 → (∀ x ∈ ps, 0 ≤ x ∧ x < (D.length : Int)) →
    spec_OrderByDeadlines.l1 k r0 n L P D (ps.reverse ++ g :: suf) i (ps.length : Int) = r0 L P D (insR D i ps suf) ((i + 1 : Nat) : Int)
  | [], suf, g, 0, h, _, _ => by simp at h
  | [], suf, g, n + 1, h, h8, hm => by
    simp only [spec_OrderByDeadlines.l1, spec_OrderByDeadlines.s1]
    rw [if_neg (by simp), if_pos (by simp), if_pos (by simp), w64n (by omega)]
    rfl
  | p :: ps, suf, g, 0, h, _, _ => by omega
  | p :: ps, suf, g, n + 1, h, h8, hm => by
    simp only [List.length_cons] at h h8
    have hp := hm p (by simp)
    have e1 : wrap64 (((p :: ps).length : Int) - 1) = (ps.length : Int) := by rw [w64 (by simp only [List.length_cons]; omega) (by simp only [List.length_cons]; omega)]; simp
    have e2 : (p :: ps).reverse ++ g :: suf = ps.reverse ++ p :: g :: suf := by simp
    have e3 : rd (ps.reverse ++ p :: g :: suf) (ps.length : Int) = p := by
      have := rd_app (a := ps.reverse) (b := g :: suf) (x := p); rwa [List.length_reverse] at this
    have hlen : (ps.reverse ++ p :: g :: suf).length = ps.length + suf.length + 2 := by simp; omega
    have e4 : ∀ y, (ps.reverse ++ p :: g :: suf).set (((p :: ps).length : Int)).toNat y = ps.reverse ++ p :: y :: suf := fun y => by
      have := set_app (a := ps.reverse ++ [p]) (b := suf) (x := g) (y := y)
      simpa using this
    simp only [spec_OrderByDeadlines.l1, spec_OrderByDeadlines.s1]
    rw [e1, e2, e3, e4, e4, hlen, w64n (by omega)]
    simp only [List.length_cons, insR]
    rw [if_pos (by omega), if_pos (by omega), if_pos (by omega), if_pos hp.1, if_pos hp.2, if_pos (by omega), if_pos (by omega)]
    by_cases c : rd D i < rd D p
    · rw [if_pos c, if_pos c, if_pos (by omega), if_pos (by omega), if_pos (by omega), if_pos (by omega)]
      exact specO_in hi hl ps (p :: suf) p n (by omega) (by simp; omega) (fun x hx => hm x (by simp [hx]))
    · rw [if_neg c, if_neg c, if_pos (by omega), if_pos (by omega)]

theorem specO_loop {k : Nat} (hk : 2097152 ≤ k) {L P D : List Int} (hD : D.length = L.length) (hl : L.length ≤ 8) : ∀ (d i n : Nat), L.length - i = d → i ≤ L.length → d < n →
    spec_OrderByDeadlines.l0 k n L P D (sortN D i) i = some (sortN D L.length, 0) := by
  intro d
  induction d with
  | zero =>
    intro i n hd hi hn
    cases n with
    | zero => omega
    | succ n =>
      simp only [spec_OrderByDeadlines.l0, spec_OrderByDeadlines.s0]
      rw [if_neg (by omega), show i = L.length by omega]
  | succ d ih =>
    intro i n hd hi hn
    cases n with
    | zero => omega
    | succ n =>
      have hs := sortN_len D i
      simp only [spec_OrderByDeadlines.l0, spec_OrderByDeadlines.s0]
      rw [if_pos (by omega), if_pos (by omega)]
      have := specO_in (k := k) (L := L) (P := P) (D := D) (i := i) (by omega) (by omega) (r0 := spec_OrderByDeadlines.l0 k n) (sortN D i).reverse [] (i : Int) k (by simp; omega) (by simp; omega) (fun x hx => by have := sortN_mem D i x (List.mem_reverse.1 hx); omega)
      rw [List.reverse_reverse, List.length_reverse] at this
      rw [this]
      exact ih (i + 1) n (by omega) (by omega) (by omega)

/-! ### The program -/

theorem gapCmp_f {a b : Int} {D : List Int} (ha : 0 ≤ a) (ha2 : a < D.length) (hb : 0 ≤ b) (hb2 : b < D.length) (hd : ∀ x ∈ D, 0 ≤ x ∧ x ≤ 60) : impl_Tasks_byGap_1.f a b D = some (rd D a - rd D b) := by
  unfold impl_Tasks_byGap_1.f
  have h1 := hd _ (rd_mem (l := D) (i := a.toNat) (by omega))
  have h2 := hd _ (rd_mem (l := D) (i := b.toNat) (by omega))
  rw [Int.toNat_of_nonneg ha] at h1
  rw [Int.toNat_of_nonneg hb] at h2
  rw [if_pos ha, if_pos ha2, if_pos hb, if_pos hb2, w64 (by omega) (by omega)]

theorem implO_in {k : Nat} {D : List Int} {m i : Nat} (hi : i < D.length) (hd : ∀ x ∈ D, 0 ≤ x ∧ x ≤ 60) {r0 : (List Int) → Int → Int → (List Int) → Int → Option (List Int)} : ∀ (ps suf rest : List Int) (n : Nat), ps.length < n → ps.length + suf.length ≤ 8 → (∀ x ∈ ps, 0 ≤ x ∧ x < (D.length : Int)) → i ≤ 8 →
    slices_insertionSortCmpFunc_int64_impl_Tasks_byGap_1.l1 k r0 n (ps.reverse ++ (i : Int) :: (suf ++ rest)) 0 m D i (ps.length : Int) = r0 (insR D i ps suf ++ rest) 0 m D ((i + 1 : Nat) : Int)
  | [], suf, rest, 0, h, _, _, _ => by simp at h
  | [], suf, rest, n + 1, h, h8, hm, hi8 => by
    simp only [slices_insertionSortCmpFunc_int64_impl_Tasks_byGap_1.l1, slices_insertionSortCmpFunc_int64_impl_Tasks_byGap_1.s1]
    rw [if_neg (by simp), w64n (by omega)]
    rfl
  | p :: ps, suf, rest, 0, h, _, _, _ => by omega
  | p :: ps, suf, rest, n + 1, h, h8, hm, hi8 => by
    simp only [List.length_cons] at h h8
    have hp := hm p (by simp)
    have e1 : wrap64 (((p :: ps).length : Int) - 1) = (ps.length : Int) := by rw [w64 (by simp only [List.length_cons]; omega) (by simp only [List.length_cons]; omega)]; simp
    have e2 : (p :: ps).reverse ++ (i : Int) :: (suf ++ rest) = ps.reverse ++ p :: (i : Int) :: (suf ++ rest) := by simp
    have e3 : rd (ps.reverse ++ p :: (i : Int) :: (suf ++ rest)) (ps.length : Int) = p := by
      have := rd_app (a := ps.reverse) (b := (i : Int) :: (suf ++ rest)) (x := p); rwa [List.length_reverse] at this
    have e5 : rd (ps.reverse ++ p :: (i : Int) :: (suf ++ rest)) (((p :: ps).length : Nat) : Int) = i := by
      have := rd_app (a := ps.reverse ++ [p]) (b := suf ++ rest) (x := (i : Int))
      simpa using this
    have e4 : ((ps.reverse ++ p :: (i : Int) :: (suf ++ rest)).set (((p :: ps).length : Nat) : Int).toNat p).set (ps.length : Int).toNat (i : Int) = ps.reverse ++ (i : Int) :: (p :: suf ++ rest) := by
      have h1 : (ps.reverse ++ p :: (i : Int) :: (suf ++ rest)).set (((p :: ps).length : Nat) : Int).toNat p = ps.reverse ++ p :: p :: (suf ++ rest) := by
        have := set_app (a := ps.reverse ++ [p]) (b := suf ++ rest) (x := (i : Int)) (y := p)
        simpa using this
      rw [h1]
      have := set_app (a := ps.reverse) (b := p :: (suf ++ rest)) (x := p) (y := (i : Int))
      simpa using this
    have hlen : (ps.reverse ++ p :: (i : Int) :: (suf ++ rest)).length = ps.length + suf.length + rest.length + 2 := by simp; omega
    simp only [slices_insertionSortCmpFunc_int64_impl_Tasks_byGap_1.l1, slices_insertionSortCmpFunc_int64_impl_Tasks_byGap_1.s1]
    rw [e1, e2, e3, e5, e4, List.length_set, hlen, gapCmp_f (by omega) (by omega) hp.1 hp.2 hd, Option.bind_some]
    simp only [List.length_cons, insR]
    rw [if_pos (by omega), if_pos (by omega), if_pos (by omega), if_pos (by omega), if_pos (by omega)]
    by_cases c : rd D i < rd D p
    · rw [if_pos (by omega), if_pos (by omega), if_pos (by omega), if_pos (by omega), if_pos (by omega), if_pos (by omega), if_pos (by omega), if_pos (by omega), if_pos (by omega), if_pos c]
      exact implO_in hi hd ps (p :: suf) rest n (by omega) (by simp; omega) (fun x hx => hm x (by simp [hx])) hi8
    · rw [if_neg (by omega), if_neg c, w64n (by omega)]
      congr 1
      simp

/-- The numbers from i on. -/
def fromI (i m : Nat) : List Int := (List.range' i (m - i)).map fun x : Nat => (x : Int)
theorem fromI_cons {i m : Nat} (h : i < m) : fromI i m = (i : Int) :: fromI (i + 1) m := by
  unfold fromI
  rw [show m - i = (m - (i + 1)) + 1 by omega, List.range'_succ]; rfl
theorem fromI_nil {m : Nat} : fromI m m = [] := by unfold fromI; simp

theorem implO_loop {k : Nat} (hk : 2097152 ≤ k) {D : List Int} (hl : D.length ≤ 8) (hd : ∀ x ∈ D, 0 ≤ x ∧ x ≤ 60) : ∀ (d i n : Nat), D.length - i = d → i ≤ D.length → d < n →
    slices_insertionSortCmpFunc_int64_impl_Tasks_byGap_1.l0 k n (sortN D i ++ fromI i D.length) 0 D.length D i = some (sortN D D.length) := by
  intro d
  induction d with
  | zero =>
    intro i n hd hi hn
    cases n with
    | zero => omega
    | succ n =>
      simp only [slices_insertionSortCmpFunc_int64_impl_Tasks_byGap_1.l0, slices_insertionSortCmpFunc_int64_impl_Tasks_byGap_1.s0]
      rw [if_neg (by omega), show i = D.length by omega, fromI_nil, List.append_nil]
  | succ d ih =>
    intro i n hdd hi hn
    cases n with
    | zero => omega
    | succ n =>
      have hs := sortN_len D i
      simp only [slices_insertionSortCmpFunc_int64_impl_Tasks_byGap_1.l0, slices_insertionSortCmpFunc_int64_impl_Tasks_byGap_1.s0]
      rw [if_pos (by omega), fromI_cons (by omega)]
      have := implO_in (k := k) (D := D) (m := D.length) (i := i) (by omega) hd (r0 := slices_insertionSortCmpFunc_int64_impl_Tasks_byGap_1.l0 k n) (sortN D i).reverse [] (fromI (i + 1) D.length) k (by simp; omega) (by simp; omega) (fun x hx => by have := sortN_mem D i x (List.mem_reverse.1 hx); omega) (by omega)
      rw [List.reverse_reverse, List.length_reverse, hs, List.nil_append] at this
      rw [this]
      exact ih (i + 1) n (by omega) (by omega) (by omega)

theorem byGap_loop {k : Nat} (hk : 2097152 ≤ k) {D : List Int} (h1 : 1 ≤ D.length) (hl : D.length ≤ 8) (hd : ∀ x ∈ D, 0 ≤ x ∧ x ≤ 60) : ∀ (d i n : Nat), D.length - i = d → i ≤ D.length → d < n →
    impl_Tasks_byGap.l0 k n D ((List.range i).map fun x : Nat => (x : Int)) D.length i = some (sortN D D.length) := by
  intro d
  induction d with
  | zero =>
    intro i n hdd hi hn
    cases n with
    | zero => omega
    | succ n =>
      obtain rfl : i = D.length := by omega
      simp only [impl_Tasks_byGap.l0, impl_Tasks_byGap.s0]
      have e : (List.range D.length).map (fun x : Nat => (x : Int)) = sortN D 1 ++ fromI 1 D.length := by
        have e1 : sortN D 1 = [(0 : Int)] := rfl
        have e2 : [(0 : Int)] ++ fromI 1 D.length = fromI 0 D.length := (fromI_cons (i := 0) (by omega)).symm
        rw [e1, e2]
        unfold fromI
        rw [List.range_eq_range', Nat.sub_zero]
      have hi := implO_loop hk hl hd (D.length - 1) 1 k rfl (by omega) (by omega)
      rw [if_neg (by omega), e]
      unfold slices_SortStableFunc_int64_int64_impl_Tasks_byGap_1.f slices_stableCmpFunc_int64_impl_Tasks_byGap_1.f slices_stableCmpFunc_int64_impl_Tasks_byGap_1.g
      have hlen : (sortN D 1 ++ fromI 1 D.length).length = D.length := by rw [← e]; simp
      obtain ⟨k', rfl⟩ : ∃ k', k = k' + 1 := ⟨k - 1, by omega⟩
      rw [hlen]
      simp only [slices_stableCmpFunc_int64_impl_Tasks_byGap_1.l0, slices_stableCmpFunc_int64_impl_Tasks_byGap_1.s0, slices_stableCmpFunc_int64_impl_Tasks_byGap_1.l1, slices_stableCmpFunc_int64_impl_Tasks_byGap_1.s1]
      rw [if_neg (by omega)]
      unfold slices_insertionSortCmpFunc_int64_impl_Tasks_byGap_1.f slices_insertionSortCmpFunc_int64_impl_Tasks_byGap_1.g
      rw [show wrap64 (0 + 1) = ((1 : Nat) : Int) by rw [w64 (by omega) (by omega)]; rfl, hi, Option.bind_some, if_neg (by omega)]
      rfl
  | succ d ih =>
    intro i n hdd hi hn
    cases n with
    | zero => omega
    | succ n =>
      simp only [impl_Tasks_byGap.l0, impl_Tasks_byGap.s0]
      rw [if_pos (by omega), if_pos (by simp; omega), w64n (by omega), show (List.range i).map (fun x : Nat => (x : Int)) ++ [(i : Int)] = (List.range (i + 1)).map (fun x : Nat => (x : Int)) by rw [List.range_succ]; simp]
      exact ih (i + 1) n (by omega) (by omega) (by omega)

theorem byGap_f {k : Nat} (hk : 2097152 ≤ k) {D : List Int} (h1 : 1 ≤ D.length) (hl : D.length ≤ 8) (hd : ∀ x ∈ D, 0 ≤ x ∧ x ≤ 60) : impl_Tasks_byGap.f k D = some (sortN D D.length) := by
  unfold impl_Tasks_byGap.f impl_Tasks_byGap.g
  rw [many_f, Option.bind_some]
  exact byGap_loop hk h1 hl hd D.length 0 k rfl (by omega) (by omega)

def orderR (L P D : List Int) : List Int × Int := if jobsOk L P D = true then (sortN D L.length, 0) else ([], 1)

theorem spec_Order_f {k : Nat} {L P D : List Int} (hk : 2097152 ≤ k) : spec_OrderByDeadlines.f k L P D = some (orderR L P D) := by
  unfold spec_OrderByDeadlines.f spec_OrderByDeadlines.g orderR
  rw [l04Is_f hk, Option.bind_some]
  by_cases h : jobsOk L P D = true
  · have J := (jobsOk_iff L P D).1 h
    rw [if_pos h, if_pos h]
    exact specO_loop hk J.hD J.n8 L.length 0 k rfl (by omega) (by have := J.n8; omega)
  · rw [if_neg h, if_neg h]

theorem impl_Order_f {k : Nat} {L P D : List Int} (hk : 2097152 ≤ k) : impl_OrderByDeadlines.f k L P D = some (orderR L P D) := by
  unfold impl_OrderByDeadlines.f impl_jobsCode.f orderR
  rw [areJobs_f hk, Option.bind_some]
  by_cases h : jobsOk L P D = true
  · have J := (jobsOk_iff L P D).1 h
    have := J.n1; have := J.n8; have := J.hD
    have hd : ∀ x ∈ D, 0 ≤ x ∧ x ≤ 60 := by
      intro x hx
      obtain ⟨i, hi, e⟩ := List.getElem_of_mem hx
      have := J.each i (by omega)
      rw [rd_lt hi, e] at this
      omega
    rw [if_pos h, h]
    simp only [decide_true, Bool.not_true, Bool.false_eq_true, if_false, Option.bind_some, if_true]
    rw [byGap_f hk (by omega) (by omega) hd, Option.bind_some, J.hD]
  · rw [if_neg h, show jobsOk L P D = false by simpa using h]; rfl

end Go.Proofs.Ytmgdobiloapelaa.Vf
