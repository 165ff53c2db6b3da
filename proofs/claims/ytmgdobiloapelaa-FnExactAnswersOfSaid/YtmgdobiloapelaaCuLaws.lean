/- The laws' own helpers: copies, comparisons, marks. -/
import Derived.Test.YtmgdobiloapelaaCx4
import Derived.Test.YtmgdobiloapelaaCx6
import Derived.Test.YtmgdobiloapelaaCx7
import Derived.Test.YtmgdobiloapelaaCuBase
set_option linter.unusedVariables false
set_option linter.unusedSimpArgs false
namespace Go.Proofs.Ytmgdobiloapelaa.Cb
open Go.RowKit Go.Proofs.YtmgdobiloapelaaW.PrintWords Go.Proofs.YtmgdobiloapelaaW.PrintLast Go.Proofs.Ytmgdobiloapelaa.C

theorem set_step (l : List Int) (i : Nat) (h : i < l.length) : (l.take i ++ List.replicate (l.length - i) 0).set i (rd l i) = l.take (i + 1) ++ List.replicate (l.length - (i + 1)) 0 := by
  rw [rd_lt h, List.set_append_right _ _ (by simp; omega)]
  rw [show i - (List.take i l).length = 0 from by simp; omega]
  rw [show l.length - i = (l.length - (i + 1)) + 1 by omega, List.replicate_succ, List.set_cons_zero, List.take_succ_eq_append_getElem h, List.append_assoc]
  rfl
theorem toInt64S_loop (l : List Int) (hl : l.length ≤ 35184372088832) : ∀ (d i : Nat), l.length - i = d → i ≤ l.length →
    Ev (fun k => laws_toInt64S.l0 k l (l.take i ++ List.replicate (l.length - i) 0) i) l := by
  intro d
  induction d with
  | zero =>
    intro i hd hi
    obtain rfl : i = l.length := by omega
    refine ev_succ ?_
    simp only [laws_toInt64S.l0]
    refine ev_neg (by omega) ?_
    rw [List.take_length, Nat.sub_self, List.replicate_zero, List.append_nil]
    exact Ev.now _
  | succ d ih =>
    intro i hd hi
    refine ev_succ ?_
    simp only [laws_toInt64S.l0]
    refine ev_pos (by omega) (ev_pos (by omega) (ev_pos (by simp; omega) ?_))
    rw [Int.toNat_natCast, set_step l i (by omega), w64n (by omega)]
    exact ih (i + 1) (by omega) (by omega)
theorem toInt64S_ev (l : List Int) (hl : l.length ≤ 35184372088832) : Ev (fun k => laws_toInt64S.f k l) l := by
  unfold laws_toInt64S.f
  refine ev_pos (by omega) (ev_pos (by simpa using hl) ?_)
  have := toInt64S_loop l hl l.length 0 (by omega) (by omega)
  simpa using this

theorem eqInt64S_loop (a b : List Int) (hl : a.length ≤ 35184372088832) (hab : a.length = b.length) : ∀ (d i : Nat), a.length - i = d → i ≤ a.length →
    Ev (fun k => laws_eqInt64S.l0 k a b i) (decide (a.drop i = b.drop i)) := by
  intro d
  induction d with
  | zero =>
    intro i hd hi
    obtain rfl : i = a.length := by omega
    refine ev_succ ?_
    simp only [laws_eqInt64S.l0]
    refine ev_neg (by omega) ?_
    rw [List.drop_length, hab, List.drop_length]
    exact Ev.now _
  | succ d ih =>
    intro i hd hi
    refine ev_succ ?_
    simp only [laws_eqInt64S.l0]
    refine ev_pos (by omega) (ev_pos (by omega) (ev_pos (by omega) ?_))
    rw [drop_cons (l := a) (by omega), drop_cons (l := b) (by omega)]
    by_cases e : rd a i = rd b i
    · refine ev_pos e ?_
      rw [w64n (by omega), e]
      simpa using ih (i + 1) (by omega) (by omega)
    · refine ev_neg e ?_
      refine ev_val (Ev.now _) ?_
      simp [e]
theorem eqInt64S_ev (a b : List Int) (hl : a.length ≤ 35184372088832) : Ev (fun k => laws_eqInt64S.f k a b) (decide (a = b)) := by
  unfold laws_eqInt64S.f
  by_cases e : a.length = b.length
  · refine ev_pos (by omega) ?_
    simpa using eqInt64S_loop a b hl e a.length 0 (by omega) (by omega)
  · refine ev_neg (by omega) (ev_val (Ev.now _) ?_)
    symm
    rw [decide_eq_false_iff_not]
    rintro rfl
    exact e rfl
theorem eqInt64S_same (a : List Int) (hl : a.length ≤ 35184372088832) : Ev (fun k => laws_eqInt64S.f k a a) true := ev_val (eqInt64S_ev a a hl) (by simp)

/-- n numbers from a on. -/
def marks (a : Int) : Nat → List Int
  | 0 => []
  | n + 1 => a :: marks (a + 1) n
theorem marks_length (a : Int) (n : Nat) : (marks a n).length = n := by
  induction n generalizing a with
  | zero => rfl
  | succ n ih => simp [marks, ih]
theorem marks_snoc (a : Int) (n : Nat) : marks a (n + 1) = marks a n ++ [a + n] := by
  induction n generalizing a with
  | zero => simp [marks]
  | succ n ih =>
    rw [marks, ih (a + 1), marks, List.cons_append]
    congr 3
    omega
theorem rd_marks (a : Int) (n i : Nat) (h : i < n) : rd (marks a n) i = a + i := by
  induction n generalizing a i with
  | zero => omega
  | succ n ih =>
    cases i with
    | zero => simp [rd, marks]
    | succ i =>
      have := ih (a + 1) i (by omega)
      rw [rd_nat] at this ⊢
      simp only [marks, List.getD_cons_succ]
      rw [this]
      omega
theorem mark_set (l : List Int) (a : Int) (i : Nat) (h : i < l.length) : (marks a i ++ l.drop i).set i (a + i) = marks a (i + 1) ++ l.drop (i + 1) := by
  rw [List.set_append_right _ _ (by rw [marks_length]; omega), marks_length, Nat.sub_self, drop_cons h, List.set_cons_zero, marks_snoc]
  simp
theorem markInt64S_loop (l : List Int) (a : Int) (ha : 0 ≤ a) (ha2 : a ≤ 1000000000000000) (hl : l.length ≤ 35184372088832) : ∀ (d i : Nat), l.length - i = d → i ≤ l.length →
    Ev (fun k => laws_markInt64S.l0 k (marks a i ++ l.drop i) (a + i) i) (a + l.length, marks a l.length) := by
  intro d
  induction d with
  | zero =>
    intro i hd hi
    obtain rfl : i = l.length := by omega
    refine ev_succ ?_
    simp only [laws_markInt64S.l0]
    refine ev_neg (by simp [marks_length]) ?_
    rw [List.drop_length, List.append_nil]
    exact Ev.now _
  | succ d ih =>
    intro i hd hi
    refine ev_succ ?_
    simp only [laws_markInt64S.l0]
    refine ev_pos (by simp [marks_length]; omega) (ev_pos (by omega) ?_)
    rw [Int.toNat_natCast, mark_set l a i (by omega), w64n (by omega), w64 (by omega) (by omega), show a + (i : Int) + 1 = a + ((i + 1 : Nat) : Int) by omega]
    exact ih (i + 1) (by omega) (by omega)
theorem markInt64S_ev (l : List Int) (a : Int) (ha : 0 ≤ a) (ha2 : a ≤ 1000000000000000) (hl : l.length ≤ 35184372088832) : Ev (fun k => laws_markInt64S.f k l a) (a + l.length, marks a l.length) := by
  unfold laws_markInt64S.f
  simpa [marks] using markInt64S_loop l a ha ha2 hl l.length 0 (by omega) (by omega)
theorem heldInt64S_loop (a : Int) (n : Nat) (ha : 0 ≤ a) (ha2 : a ≤ 1000000000000000) (hl : n ≤ 35184372088832) : ∀ (d i : Nat), n - i = d → i ≤ n →
    Ev (fun k => laws_heldInt64S.l0 k (marks a n) (a + i) i) (a + n) := by
  intro d
  induction d with
  | zero =>
    intro i hd hi
    obtain rfl : i = n := by omega
    refine ev_succ ?_
    simp only [laws_heldInt64S.l0]
    exact ev_neg (by simp [marks_length]) (Ev.now _)
  | succ d ih =>
    intro i hd hi
    refine ev_succ ?_
    simp only [laws_heldInt64S.l0]
    refine ev_pos (by simp [marks_length]; omega) (ev_pos (by omega) (ev_pos (rd_marks a n i (by omega)) ?_))
    rw [w64n (by omega), w64 (by omega) (by omega), show a + (i : Int) + 1 = a + ((i + 1 : Nat) : Int) by omega]
    exact ih (i + 1) (by omega) (by omega)
theorem heldInt64S_ev (a : Int) (n : Nat) (ha : 0 ≤ a) (ha2 : a ≤ 1000000000000000) (hl : n ≤ 35184372088832) : Ev (fun k => laws_heldInt64S.f k (marks a n) a) (a + n) := by
  unfold laws_heldInt64S.f
  simpa using heldInt64S_loop a n ha ha2 hl n 0 (by omega) (by omega)
end Go.Proofs.Ytmgdobiloapelaa.Cb
