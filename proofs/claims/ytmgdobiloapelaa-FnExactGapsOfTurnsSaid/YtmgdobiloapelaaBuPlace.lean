/- Waits of a task: one model for the program and the reference. -/
import Derived.Test.YtmgdobiloapelaaBx10
import Derived.Test.YtmgdobiloapelaaBx11
import Derived.Test.YtmgdobiloapelaaBx5
import Derived.Test.YtmgdobiloapelaaBuBase
set_option linter.unusedVariables false
set_option linter.unusedSimpArgs false
namespace Go.Proofs.Ytmgdobiloapelaa.Bb
open Go.RowKit Go.Proofs.YtmgdobiloapelaaW.PrintWords Go.Proofs.YtmgdobiloapelaaW.PrintLast Go.Proofs.Ytmgdobiloapelaa.B

/-- The places of a task from one on. -/
def pl (i : Int) : List Int → Nat → List Int
  | [], _ => []
  | x :: l, a => if x = i then (a : Int) :: pl i l (a + 1) else pl i l (a + 1)
/-- Waits from place to place, the last one round to the first. -/
def ws (f n : Int) : List Int → List Int
  | [] => []
  | [a] => [n - a + f]
  | a :: b :: r => (b - a) :: ws f n (b :: r)
def waitsL (t : List Int) (i : Int) : List Int := ws ((pl i t 0).headD 0) (t.length : Int) (pl i t 0)
theorem pl_length (i : Int) : ∀ (l : List Int) (a : Nat), (pl i l a).length ≤ l.length
  | [], _ => by simp [pl]
  | x :: l, a => by
    rw [pl]
    have := pl_length i l (a + 1)
    split <;> simp <;> omega
theorem pl_range (i : Int) : ∀ (l : List Int) (a : Nat), ∀ p ∈ pl i l a, (a : Int) ≤ p ∧ p < a + l.length
  | [], _ => by simp [pl]
  | x :: l, a => by
    intro p hp
    have ih := pl_range i l (a + 1)
    rw [pl] at hp
    rw [List.length_cons]
    split at hp
    · rcases List.mem_cons.mp hp with rfl | hp
      · omega
      · have := ih p hp; omega
    · have := ih p hp; omega
theorem ws_length (f n : Int) : ∀ l : List Int, (ws f n l).length = l.length
  | [] => rfl
  | [a] => rfl
  | a :: b :: r => by rw [ws, List.length_cons, ws_length f n (b :: r)]; rfl
theorem waitsL_length (t : List Int) (i : Int) : (waitsL t i).length ≤ t.length := by
  unfold waitsL
  rw [ws_length]
  exact pl_length i t 0
theorem specWaits_loop (t : List Int) (i : Int) (ht : t.length ≤ 1000) : ∀ (suf : List Int) (a : Nat) (out : List Int) (f z : Int), t.drop a = suf → a ≤ t.length → out.length ≤ a → (f < 0 ∧ out = [] ∨ 0 ≤ f ∧ f < t.length ∧ 0 ≤ z ∧ z < a) →
    Ev (fun k => spec_l01Waits.l0 k t i out f z a) (if f < 0 then ws ((pl i suf a).headD 0) (t.length : Int) (pl i suf a) else out ++ ws f (t.length : Int) (z :: pl i suf a)) := by
  intro suf
  induction suf with
  | nil =>
    intro a out f z h ha ho hf
    have := drop_nil h
    refine ev_succ ?_
    simp only [spec_l01Waits.l0]
    refine ev_neg (by omega) ?_
    rcases hf with ⟨hf, rfl⟩ | ⟨hf0, hf1, hz0, hz1⟩
    · refine ev_neg (by omega) (ev_val (Ev.now _) ?_)
      rw [if_pos hf]; rfl
    · refine ev_pos hf0 (ev_pos (by omega) (ev_val (Ev.now _) ?_))
      rw [if_neg (by omega), w64 (x := (t.length : Int) - z) (by omega) (by omega), w64 (by omega) (by omega)]
      rfl
  | cons x suf ih =>
    intro a out f z h ha ho hf
    obtain ⟨hi, hx, hs⟩ := drop_split h
    refine ev_succ ?_
    simp only [spec_l01Waits.l0]
    refine ev_pos (by omega) (ev_pos (by omega) ?_)
    rw [hx, show wrap64 ((a : Int) + 1) = ((a + 1 : Nat) : Int) from w64n (by omega)]
    by_cases e : x = i
    · refine ev_pos e ?_
      rw [pl, if_pos e]
      rcases hf with ⟨hf, rfl⟩ | ⟨hf0, hf1, hz0, hz1⟩
      · refine ev_pos hf ?_
        rw [if_pos hf]
        refine ev_val (ih (a + 1) [] a a hs (by omega) (by simp) (.inr ⟨by omega, by omega, by omega, by omega⟩)) ?_
        rw [if_neg (by omega)]
        rfl
      · refine ev_neg (by omega) (ev_pos (by omega) ?_)
        rw [w64 (x := (a : Int) - z) (by omega) (by omega), if_neg (by omega)]
        refine ev_val (ih (a + 1) (out ++ [(a : Int) - z]) f a hs (by omega) (by simp; omega) (.inr ⟨by omega, by omega, by omega, by omega⟩)) ?_
        rw [if_neg (by omega), List.append_assoc]
        rfl
    · refine ev_neg e ?_
      rw [pl, if_neg e]
      exact ih (a + 1) out f z hs (by omega) (by omega) (hf.imp id (fun h => ⟨h.1, h.2.1, h.2.2.1, by have := h.2.2.2; omega⟩))
theorem specWaits_ev (t : List Int) (i : Int) (ht : t.length ≤ 1000) : Ev (fun k => spec_l01Waits.f k t i) (waitsL t i) := by
  unfold spec_l01Waits.f
  exact ev_val (specWaits_loop t i ht t 0 [] (-1) (-1) (by simp) (by omega) (by simp) (.inl ⟨by omega, rfl⟩)) (by rw [if_pos (by omega)]; rfl)
theorem implWaits_l1 (t ps : List Int) (ht : t.length ≤ 1000) (hp : ps.length ≤ 1000) (hr : ∀ p ∈ ps, 0 ≤ p ∧ p < t.length) : ∀ (suf : List Int) (a : Nat) (out : List Int), ps.drop a = suf → a ≤ ps.length → out.length = a →
    Ev (fun k => impl_waits.l1 k t ps out ps (ps.length : Int) a) (out ++ ws (ps.headD 0) (t.length : Int) suf) := by
  intro suf
  induction suf with
  | nil =>
    intro a out h ha ho
    have := drop_nil h
    refine ev_succ ?_
    simp only [impl_waits.l1]
    exact ev_neg (by omega) (ev_val (Ev.now _) (by simp [ws]))
  | cons x suf ih =>
    intro a out h ha ho
    obtain ⟨hi, hx, hs⟩ := drop_split h
    have hxm : x ∈ ps := by rw [← hx]; exact rd_mem hi
    have hxr := hr x hxm
    refine ev_succ ?_
    simp only [impl_waits.l1]
    refine ev_pos (by omega) (ev_pos (by omega) (ev_pos (by omega) ?_))
    rw [hx, show wrap64 ((a : Int) + 1) = ((a + 1 : Nat) : Int) from w64n (by omega)]
    by_cases e : a + 1 < ps.length
    · refine ev_pos (by omega) (ev_pos (by omega) (ev_pos (by omega) ?_))
      have hb := rd_mem e
      have hbr := hr _ hb
      rw [w64 (x := rd ps ((a + 1 : Nat) : Int) - x) (by omega) (by omega)]
      refine ev_val (ih (a + 1) _ hs (by omega) (by simp [ho])) ?_
      rw [drop_cons e] at hs
      rw [← hs, ws, List.append_assoc]
      rfl
    · refine ev_neg (by omega) (ev_pos (by omega) ?_)
      refine ev_bnd (show impl_length_int64.f t = some (t.length : Int) from rfl) (ev_pos (by omega) ?_)
      have h0 : 0 < ps.length := by omega
      have hb := rd_mem h0
      have hbr := hr _ hb
      have hhd : ps.headD 0 = rd ps ((0 : Nat) : Int) := by
        rw [rd_lt h0]
        cases ps with
        | nil => simp at h0
        | cons y r => rfl
      rw [show ((0 : Nat) : Int) = 0 from rfl] at hbr hhd
      rw [w64 (x := rd ps 0 + (t.length : Int)) (by omega) (by omega), w64 (by omega) (by omega)]
      refine ev_val (ih (a + 1) _ hs (by omega) (by simp [ho])) ?_
      have hs2 : suf = [] := by rw [← hs]; exact List.drop_eq_nil_of_le (by omega)
      rw [hs2, ws, ws, hhd, List.append_nil]
      congr 2
      omega
theorem implWaits_ev (t : List Int) (i : Int) (ht : t.length ≤ 1000) : Ev (fun k => impl_waits.f k t i) (waitsL t i) := by
  unfold impl_waits.f
  have : ∀ (suf : List Int) (a : Nat) (ps : List Int), t.drop a = suf → a ≤ t.length → ps.length ≤ a → pl i t 0 = ps ++ pl i suf a → Ev (fun k => impl_waits.l0 k t i ps t (t.length : Int) a) (waitsL t i) := by
    intro suf
    induction suf with
    | nil =>
      intro a ps h ha ho hp
      have := drop_nil h
      rw [pl, List.append_nil] at hp
      refine ev_succ ?_
      simp only [impl_waits.l0]
      refine ev_neg (by omega) ?_
      refine ev_val (implWaits_l1 t ps ht (by omega) (fun p hpm => ?_) ps 0 [] (by simp) (by omega) rfl) ?_
      · have := pl_range i t 0 p (by rw [hp]; exact hpm)
        omega
      · rw [waitsL, hp]; rfl
    | cons x suf ih =>
      intro a ps h ha ho hp
      obtain ⟨hi, hx, hs⟩ := drop_split h
      refine ev_succ ?_
      simp only [impl_waits.l0]
      refine ev_pos (by omega) (ev_pos (by omega) (ev_pos (by omega) ?_))
      rw [hx, show wrap64 ((a : Int) + 1) = ((a + 1 : Nat) : Int) from w64n (by omega)]
      rw [pl] at hp
      by_cases e : x = i
      · rw [if_pos e] at hp
        exact ev_pos e (ev_pos (by omega) (ih (a + 1) _ hs (by omega) (by simp; omega) (by rw [hp, List.append_assoc]; rfl)))
      · rw [if_neg e] at hp
        exact ev_neg e (ih (a + 1) ps hs (by omega) (by omega) hp)
  exact this t 0 [] (by simp) (by omega) (by simp) (by simp)

/-- The greatest one, at least a. -/
def gr (a : Int) (l : List Int) : Int := l.foldl (fun x y => mx x y) a
theorem specGreatest_loop (l : List Int) (hl : l.length ≤ 1000) : ∀ (suf : List Int) (i : Nat) (a : Int), l.drop i = suf → Ev (fun k => spec_l01Greatest.l0 k l a i) (gr a suf) := by
  intro suf
  induction suf with
  | nil =>
    intro i a h
    have := drop_nil h
    refine ev_succ ?_
    simp only [spec_l01Greatest.l0]
    exact ev_neg (by omega) (Ev.now _)
  | cons x suf ih =>
    intro i a h
    obtain ⟨hi, hx, hs⟩ := drop_split h
    refine ev_succ ?_
    simp only [spec_l01Greatest.l0]
    refine ev_pos (by omega) (ev_pos (by omega) ?_)
    rw [hx, show wrap64 ((i : Int) + 1) = ((i + 1 : Nat) : Int) from w64n (by omega)]
    exact ih (i + 1) _ hs
theorem implGreatest_ev (l : List Int) (hl : l.length ≤ 1000) : Ev (fun k => impl_greatest.f k l) (gr 0 l) := by
  unfold impl_greatest.f
  have : ∀ (suf : List Int) (i : Nat) (a : Int), l.drop i = suf → Ev (fun k => impl_greatest.l0 k a l (l.length : Int) i) (gr a suf) := by
    intro suf
    induction suf with
    | nil =>
      intro i a h
      have := drop_nil h
      refine ev_succ ?_
      simp only [impl_greatest.l0]
      exact ev_neg (by omega) (Ev.now _)
    | cons x suf ih =>
      intro i a h
      obtain ⟨hi, hx, hs⟩ := drop_split h
      refine ev_succ ?_
      simp only [impl_greatest.l0]
      refine ev_pos (by omega) (ev_pos (by omega) (ev_pos (by omega) ?_))
      rw [hx, show wrap64 ((i : Int) + 1) = ((i + 1 : Nat) : Int) from w64n (by omega)]
      exact ih (i + 1) _ hs
  exact this l 0 0 (by simp)
def gapL (t : List Int) (i : Int) : Int := gr 0 (waitsL t i)
theorem specGap_ev (t : List Int) (i : Int) (ht : t.length ≤ 1000) : Ev (fun k => spec_l01Greatest.f k t i) (gapL t i) := by
  unfold spec_l01Greatest.f
  exact Ev.bind (specWaits_ev t i ht) (specGreatest_loop _ (by have := waitsL_length t i; omega) _ 0 0 (by simp))
theorem mx_ge (a b : Int) : a ≤ mx a b ∧ b ≤ mx a b := by unfold mx; split <;> omega
theorem gr_ge (l : List Int) : ∀ a : Int, a ≤ gr a l ∧ ∀ x ∈ l, x ≤ gr a l := by
  induction l with
  | nil => intro a; exact ⟨Int.le_refl _, fun x hx => by cases hx⟩
  | cons y l ih =>
    intro a
    have h := ih (mx a y)
    have h2 := mx_ge a y
    refine ⟨Int.le_trans h2.1 h.1, fun x hx => ?_⟩
    rcases List.mem_cons.mp hx with rfl | hx
    · exact Int.le_trans h2.2 h.1
    · exact h.2 x hx
theorem pl_mem (i : Int) : ∀ (l : List Int) (a : Nat), i ∈ l → pl i l a ≠ []
  | [], _, h => by cases h
  | x :: l, a, h => by
    rw [pl]
    split
    · simp
    · rename_i e
      rcases List.mem_cons.mp h with rfl | h
      · exact absurd rfl e
      · exact pl_mem i l (a + 1) h
theorem ws_last (f n : Int) : ∀ (l : List Int), l ≠ [] → ∃ p ∈ l, n - p + f ∈ ws f n l
  | [], h => absurd rfl h
  | [a], _ => ⟨a, by simp, by simp [ws]⟩
  | a :: b :: r, _ => by
    obtain ⟨p, hp, h⟩ := ws_last f n (b :: r) (by simp)
    exact ⟨p, by simp [List.mem_cons.mp hp], by rw [ws]; exact List.mem_cons_of_mem _ h⟩
/-- A task with a turn has a wait of one at least. -/
theorem gapL_pos (t : List Int) (i : Int) (h : i ∈ t) : 1 ≤ gapL t i := by
  have hne := pl_mem i t 0 h
  obtain ⟨p, hp, hw⟩ := ws_last ((pl i t 0).headD 0) (t.length : Int) (pl i t 0) hne
  have h1 := (gr_ge (waitsL t i) 0).2 _ hw
  have h2 := pl_range i t 0 p hp
  have h3 : 0 ≤ (pl i t 0).headD 0 := by
    cases e : pl i t 0 with
    | nil => exact absurd e hne
    | cons y r =>
      have := pl_range i t 0 y (by rw [e]; simp)
      show 0 ≤ y
      omega
  unfold gapL
  omega
end Go.Proofs.Ytmgdobiloapelaa.Bb
