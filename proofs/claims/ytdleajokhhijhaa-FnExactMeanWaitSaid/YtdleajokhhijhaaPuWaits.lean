/- Waits for a task, the reference's and the program's; their codes, sums, worst ones. -/
import Derived.Test.YtdleajokhhijhaaPx10
import Derived.Test.YtdleajokhhijhaaPx3
import Derived.Test.YtdleajokhhijhaaPx4
import Derived.Test.YtdleajokhhijhaaPx5
import Derived.Test.YtdleajokhhijhaaPx6
import Derived.Test.YtdleajokhhijhaaPx7
import Derived.Test.YtdleajokhhijhaaPx8
import Derived.Test.YtdleajokhhijhaaPx9
import Derived.Test.YtdleajokhhijhaaPuShares
import Derived.Test.YtdleajokhhijhaaPuEven
set_option linter.unusedVariables false
set_option linter.unusedSimpArgs false
namespace Go.Proofs.Ytdleajokhhijhaa.Pb
open Go.RowKit Go.Proofs.YtdleajokhhijhaaW.PrintWords Go.Proofs.YtdleajokhhijhaaW.PrintLast Go.Proofs.Ytdleajokhhijhaa.P

theorem len_some (l : List Int) : impl_length_int64.f l = some (l.length : Int) := rfl
/-- Turns of m tasks. -/
def turnsB (l : List Int) (m : Int) : Bool := inB 1 120 (l.length : Int) && l.all (inB (-1) (m - 1))
theorem l01Turns_loop (l : List Int) (m : Int) (hm : 0 ≤ m) (hm2 : m ≤ 1000) (hl : l.length ≤ 35184372088832) : ∀ (suf : List Int) (i : Nat), l.drop i = suf →
    Ev (fun k => spec_l01Turns.l0 k l m i) (inB 1 120 (l.length : Int) && suf.all (inB (-1) (m - 1))) := by
  intro suf
  induction suf with
  | nil =>
    intro i h
    have hi := drop_nil h
    refine ev_succ ?_
    simp only [spec_l01Turns.l0]
    exact ev_neg (by omega) (ev_bnd (in_some _ _ _) (ev_val (Ev.now _) (by simp)))
  | cons x suf ih =>
    intro i h
    obtain ⟨hi, hx, hs⟩ := drop_split h
    refine ev_succ ?_
    simp only [spec_l01Turns.l0]
    refine ev_pos (by omega) (ev_pos (by omega) (ev_bnd (in_some _ _ _) ?_))
    rw [hx, w64 (x := m - 1) (by omega) (by omega)]
    by_cases hb : inB (-1) (m - 1) x = true
    · refine ev_pos hb ?_
      rw [w64n (by omega)]
      exact ev_val (ih (i + 1) hs) (by simp [hb])
    · exact ev_neg hb (ev_val (Ev.now _) (by simp [hb]))
theorem l01Turns_ev (l : List Int) (m : Int) (hm : 0 ≤ m) (hm2 : m ≤ 1000) (hl : l.length ≤ 35184372088832) : Ev (fun k => spec_l01Turns.f k l m) (turnsB l m) := by
  unfold spec_l01Turns.f turnsB
  exact l01Turns_loop l m hm hm2 hl l 0 (by simp)
theorem l10Turns_loop (l ts : List Int) (hl : l.length ≤ 35184372088832) (ht : ts.length ≤ 35184372088832) : ∀ (suf : List Int) (i : Nat), ts.drop i = suf →
    Ev (fun k => spec_l10Turns.l0 k l ts i) (suf.all (inB 0 7) && turnsB l 8) := by
  intro suf
  induction suf with
  | nil =>
    intro i h
    have hi := drop_nil h
    refine ev_succ ?_
    simp only [spec_l10Turns.l0]
    exact ev_neg (by omega) (Ev.bind (l01Turns_ev l 8 (by omega) (by omega) hl) (ev_val (Ev.now _) (by simp)))
  | cons x suf ih =>
    intro i h
    obtain ⟨hi, hx, hs⟩ := drop_split h
    refine ev_succ ?_
    simp only [spec_l10Turns.l0]
    refine ev_pos (by omega) (ev_pos (by omega) (ev_bnd (in_some _ _ _) ?_))
    rw [hx]
    by_cases hb : inB 0 7 x = true
    · refine ev_pos hb ?_
      rw [w64n (by omega)]
      exact ev_val (ih (i + 1) hs) (by simp [hb])
    · exact ev_neg hb (ev_val (Ev.now _) (by simp [hb]))
theorem l10Turns_ev (l ts : List Int) (hl : l.length ≤ 35184372088832) (ht : ts.length ≤ 35184372088832) : Ev (fun k => spec_l10Turns.f k l ts) (ts.all (inB 0 7) && turnsB l 8) := by
  unfold spec_l10Turns.f
  exact l10Turns_loop l ts hl ht ts 0 (by simp)

/-- The wait for task i from slot s on, d slots having gone by, f more to be looked at; -1 if there is no turn in them. -/
def waitGo (l : List Int) (i : Int) (s : Nat) : Nat → Nat → Int
  | 0, _ => -1
  | f + 1, d => if rd l (((s + d) % l.length : Nat) : Int) = i then (d : Int) else waitGo l i s f (d + 1)
def waitM (l : List Int) (i : Int) (s : Nat) : Int := waitGo l i s l.length 0
theorem waitGo_le (l : List Int) (i : Int) (s : Nat) : ∀ f d, waitGo l i s f d = -1 ∨ ((d : Int) ≤ waitGo l i s f d ∧ waitGo l i s f d < (d : Int) + f) := by
  intro f
  induction f with
  | zero => intro d; exact .inl rfl
  | succ f ih =>
    intro d
    simp only [waitGo]
    split
    · exact .inr ⟨by omega, by omega⟩
    · rcases ih (d + 1) with h | h
      · exact .inl h
      · exact .inr ⟨by omega, by omega⟩
theorem waitGo_none (l : List Int) (i : Int) (s : Nat) : ∀ f d, waitGo l i s f d = -1 → ∀ e, d ≤ e → e < d + f → rd l (((s + e) % l.length : Nat) : Int) ≠ i := by
  intro f
  induction f with
  | zero => intro d h e h1 h2; omega
  | succ f ih =>
    intro d h e h1 h2
    simp only [waitGo] at h
    split at h
    · omega
    · rename_i hne
      rcases Nat.eq_or_lt_of_le h1 with rfl | h1
      · exact hne
      · exact ih (d + 1) h e h1 (by omega)
theorem waitGo_hit (l : List Int) (i : Int) (s : Nat) : ∀ f d, 0 ≤ waitGo l i s f d → rd l (((s + (waitGo l i s f d).toNat) % l.length : Nat) : Int) = i := by
  intro f
  induction f with
  | zero => intro d h; simp [waitGo] at h
  | succ f ih =>
    intro d h
    simp only [waitGo] at h ⊢
    split
    · rename_i e; rw [Int.toNat_natCast]; exact e
    · rename_i e
      rw [if_neg e] at h
      exact ih (d + 1) h
theorem waitM_neg (l : List Int) (i : Int) (s : Nat) (hs : s < l.length) : waitM l i s = -1 ↔ i ∉ l := by
  constructor
  · intro h hi
    obtain ⟨j, hj, e⟩ := List.mem_iff_getElem.mp hi
    have := waitGo_none l i s l.length 0 h (if s ≤ j then j - s else j + l.length - s) (by omega) (by split <;> omega)
    apply this
    have hm : (s + (if s ≤ j then j - s else j + l.length - s)) % l.length = j := by
      split
      · rw [show s + (j - s) = j by omega]; exact Nat.mod_eq_of_lt hj
      · rw [show s + (j + l.length - s) = j + l.length by omega, Nat.add_mod_right]; exact Nat.mod_eq_of_lt hj
    rw [hm, rd_lt hj]
    exact e
  · intro h
    rcases waitGo_le l i s l.length 0 with h1 | h1
    · exact h1
    · exfalso
      have := waitGo_hit l i s l.length 0 (by omega)
      apply h
      rw [← this]
      exact rd_mem (Nat.mod_lt _ (by omega))
theorem waitM_mem (l : List Int) (i : Int) (s : Nat) (hs : s < l.length) (hi : i ∈ l) : 0 ≤ waitM l i s ∧ waitM l i s < l.length := by
  rcases waitGo_le l i s l.length 0 with h1 | h1
  · exact absurd hi ((waitM_neg l i s hs).mp h1)
  · exact ⟨by have := h1.1; simpa [waitM] using this, by have := h1.2; simpa [waitM] using this⟩
theorem waitM_ge (l : List Int) (i : Int) (s : Nat) : -1 ≤ waitM l i s ∧ waitM l i s < max l.length 1 := by
  rcases waitGo_le l i s l.length 0 with h1 | h1
  · unfold waitM; omega
  · unfold waitM; omega
theorem slotAt (l : List Int) (s d : Nat) (hl : l.length ≤ 1000) (hs : s ≤ 1000) (hd : d ≤ 1000) : Int.tmod (wrap64 ((s : Int) + (d : Int))) (l.length : Int) = (((s + d) % l.length : Nat) : Int) := by
  rw [w64 (by omega) (by omega), ← Int.natCast_add]; rfl
theorem specWait_loop (l : List Int) (i : Int) (s : Nat) (hl : l.length ≤ 1000) (hs : s ≤ 1000) (h0 : 0 < l.length) : ∀ (f d : Nat), l.length - d = f → d ≤ l.length →
    Ev (fun k => spec_l10Wait.l0 k l i s l.length d) (waitGo l i s f d) := by
  intro f
  induction f with
  | zero =>
    intro d hf hd
    refine ev_succ ?_
    simp only [spec_l10Wait.l0]
    exact ev_neg (by omega) (Ev.now _)
  | succ f ih =>
    intro d hf hd
    refine ev_succ ?_
    simp only [spec_l10Wait.l0]
    rw [slotAt l s d hl hs (by omega)]
    have hm := Nat.mod_lt (s + d) h0
    refine ev_pos (by omega) (ev_neg (by omega) (ev_pos (Int.natCast_nonneg _) (ev_pos (Int.ofNat_lt.mpr hm) ?_)))
    simp only [waitGo]
    by_cases e : rd l (((s + d) % l.length : Nat) : Int) = i
    · exact ev_pos e (ev_val (Ev.now _) (by rw [if_pos e]))
    · refine ev_neg e ?_
      rw [if_neg e, w64n (by omega)]
      exact ih (d + 1) (by omega) (by omega)
theorem specWait_ev (l : List Int) (i : Int) (s : Nat) (hl : l.length ≤ 1000) (hs : s ≤ 1000) (h0 : 0 < l.length) : Ev (fun k => spec_l10Wait.f k l i s) (waitM l i s) := by
  unfold spec_l10Wait.f
  exact specWait_loop l i s hl hs h0 l.length 0 (by omega) (by omega)
theorem implWait_loop (l : List Int) (i : Int) (s : Nat) (hl : l.length ≤ 1000) (hs : s ≤ 1000) (h0 : 0 < l.length) : ∀ (f d : Nat), l.length - d = f → d ≤ l.length → 0 ≤ waitGo l i s f d →
    Ev (fun k => impl_wait.l0 k l i s d) (waitGo l i s f d) := by
  intro f
  induction f with
  | zero => intro d hf hd h; simp [waitGo] at h
  | succ f ih =>
    intro d hf hd h
    refine ev_succ ?_
    simp only [impl_wait.l0]
    refine ev_bnd (len_some l) ?_
    rw [slotAt l s d hl hs (by omega)]
    have hm := Nat.mod_lt (s + d) h0
    refine ev_neg (by omega) (ev_pos (Int.natCast_nonneg _) (ev_pos (Int.ofNat_lt.mpr hm) ?_))
    simp only [waitGo] at h ⊢
    by_cases e : rd l (((s + d) % l.length : Nat) : Int) = i
    · exact ev_pos e (ev_val (Ev.now _) (by rw [if_pos e]))
    · refine ev_neg e ?_
      rw [if_neg e] at h ⊢
      rw [w64n (by omega)]
      exact ih (d + 1) (by omega) (by omega) h
theorem implWait_ev (l : List Int) (i : Int) (s : Nat) (hl : l.length ≤ 1000) (hs : s < l.length) (hi : i ∈ l) : Ev (fun k => impl_wait.f k l i s) (waitM l i s) := by
  unfold impl_wait.f
  exact implWait_loop l i s hl (by omega) (by omega) l.length 0 (by omega) (by omega) (waitM_mem l i s hs hi).1

/-! the codes -/
def codeM (l : List Int) (ok : Bool) (ts : List Int) : Int :=
  if (turnsB l 8 && ok && ts.all (inB 0 7)) = true then (if ts.all (fun x => decide (x ∈ l)) = true then 0 else 4) else 2
theorem turnsB_iff (l : List Int) (m : Int) : turnsB l m = true ↔ (1 ≤ l.length ∧ l.length ≤ 120) ∧ ∀ x ∈ l, -1 ≤ x ∧ x ≤ m - 1 := by
  unfold turnsB
  rw [Bool.and_eq_true, inB_iff, all_iff]
  constructor
  · rintro ⟨h1, h2⟩; exact ⟨by omega, h2⟩
  · rintro ⟨h1, h2⟩; exact ⟨by omega, h2⟩
theorem waitCode_some (l : List Int) (ok : Bool) (ts : List Int) : impl_waitCode.f l ok ts = some (codeM l ok ts) := by
  unfold impl_waitCode.f codeM turnsB
  rw [show wrap64 (8 - 1) = 8 - 1 from by unfold wrap64; omega]
  cases h1 : (inB 1 120 (l.length : Int) && l.all (inB (-1) (8 - 1)))
  · simp
  · cases ok
    · simp
    · simp only [if_true, Bool.true_and]
      cases h3 : ts.all (inB 0 7)
      · simp
      · simp only [if_true]
        split <;> rfl
theorem l10Code_loop (l ts : List Int) (hl : l.length ≤ 1000) (h0 : 0 < l.length) (ht : ts.length ≤ 35184372088832) : ∀ (suf : List Int) (i : Nat), ts.drop i = suf →
    Ev (fun k => spec_l10Code.l0 k l ts i) (if suf.all (fun x => decide (x ∈ l)) = true then 0 else 4) := by
  intro suf
  induction suf with
  | nil =>
    intro i h
    have hi := drop_nil h
    refine ev_succ ?_
    simp only [spec_l10Code.l0]
    exact ev_neg (by omega) (Ev.now _)
  | cons x suf ih =>
    intro i h
    obtain ⟨hi, hx, hs⟩ := drop_split h
    refine ev_succ ?_
    simp only [spec_l10Code.l0]
    refine ev_pos (by omega) (ev_pos (by omega) ?_)
    rw [hx]
    refine Ev.bind (specWait_ev l x 0 hl (by omega) h0) ?_
    by_cases hm : x ∈ l
    · have := waitM_mem l x 0 h0 hm
      refine ev_neg (by omega) ?_
      rw [w64n (by omega)]
      refine ev_val (ih (i + 1) hs) ?_
      rw [List.all_cons, decide_eq_true hm, Bool.true_and]
    · have := (waitM_neg l x 0 h0).mpr hm
      refine ev_pos (by omega) (ev_val (Ev.now _) ?_)
      rw [List.all_cons, decide_eq_false hm, Bool.false_and]; rfl
theorem l10Code_ev (l : List Int) (slot : Int) (ts : List Int) (hl : l.length ≤ 35184372088832) (ht : ts.length ≤ 35184372088832) :
    Ev (fun k => spec_l10Code.f k l slot ts) (codeM l (inB 0 ((l.length : Int) - 1) slot) ts) := by
  unfold spec_l10Code.f
  refine Ev.bind (l10Turns_ev l ts hl ht) ?_
  unfold codeM
  by_cases h : (ts.all (inB 0 7) && turnsB l 8) = true
  · refine ev_pos h (ev_bnd (in_some _ _ _) ?_)
    rw [w64 (by omega) (by omega)]
    rw [Bool.and_eq_true] at h
    have h2 := (turnsB_iff l 8).mp h.2
    refine ev_succ ?_
    simp only [spec_l10Code.j0]
    cases hs : inB 0 ((l.length : Int) - 1) slot
    · refine ev_pos rfl (ev_val (Ev.now _) ?_)
      rw [if_neg (by simp)]
    · refine ev_neg (by simp) ?_
      rw [if_pos (by simp [h.1, h.2])]
      exact l10Code_loop l ts (by omega) (by omega) ht ts 0 (by simp)
  · refine ev_neg h (ev_succ ?_)
    simp only [spec_l10Code.j0]
    refine ev_pos trivial (ev_val (Ev.now _) ?_)
    rw [if_neg]
    intro h'
    rw [Bool.and_eq_true, Bool.and_eq_true] at h'
    exact h (by rw [h'.2, h'.1.1]; rfl)
theorem codeM_zero {l : List Int} {ok : Bool} {ts : List Int} (h : codeM l ok ts = 0) : (1 ≤ l.length ∧ l.length ≤ 120) ∧ ok = true ∧ (∀ x ∈ ts, x ∈ l) ∧ turnsB l 8 = true ∧ ∀ x ∈ ts, 0 ≤ x ∧ x ≤ 7 := by
  unfold codeM at h
  split at h
  · rename_i h1
    split at h
    · rename_i h2
      rw [Bool.and_eq_true, Bool.and_eq_true] at h1
      have h3 := (turnsB_iff l 8).mp h1.1.1
      refine ⟨h3.1, h1.1.2, ?_, h1.1.1, (all_iff _ _ _).mp h1.2⟩
      simpa [List.all_eq_true] using h2
    · omega
  · omega
theorem within_some (a b c : Int) : impl_within.f a b c = some (inB b c a) := within_inB a b c
theorem isSlot_some (l : List Int) (s : Int) (hl : l.length ≤ 35184372088832) : impl_isSlot.f l s = some (inB 0 ((l.length : Int) - 1) s) := by
  unfold impl_isSlot.f
  rw [len_some]
  simp only [Option.bind_some]
  rw [w64 (by omega) (by omega), within_some]
  rfl
theorem nat_of {x : Int} (h : 0 ≤ x) : ∃ n : Nat, x = (n : Int) := Int.eq_ofNat_of_zero_le h

/-! from a slot on -/
def fromM (l : List Int) (i s : Int) : Int × Int := if codeM l (inB 0 ((l.length : Int) - 1) s) [i] = 0 then (waitM l i s.toNat, 0) else (0, codeM l (inB 0 ((l.length : Int) - 1) s) [i])
theorem specFrom_ev (l : List Int) (i s : Int) (hl : l.length ≤ 35184372088832) : Ev (fun k => spec_WaitFrom.f k l i s) (fromM l i s) := by
  unfold spec_WaitFrom.f fromM
  refine Ev.bind (l10Code_ev l s [i] hl (by simp)) ?_
  by_cases h : codeM l (inB 0 ((l.length : Int) - 1) s) [i] = 0
  · obtain ⟨h1, h2, h3, _⟩ := codeM_zero h
    have h4 := (inB_iff _ _ _).mp h2
    obtain ⟨n, rfl⟩ := nat_of h4.1
    simp only [if_pos h]
    exact Ev.bind (specWait_ev l i n (by omega) (by omega) (by omega)) (Ev.now _)
  · simp only [if_neg h]
    exact Ev.now _
theorem implFrom_ev (l : List Int) (i s : Int) (hl : l.length ≤ 35184372088832) : Ev (fun k => impl_WaitFrom.f k l i s) (fromM l i s) := by
  unfold impl_WaitFrom.f fromM
  refine ev_bnd (isSlot_some l s hl) (ev_bnd (waitCode_some _ _ _) ?_)
  by_cases h : codeM l (inB 0 ((l.length : Int) - 1) s) [i] = 0
  · obtain ⟨h1, h2, h3, _⟩ := codeM_zero h
    have h4 := (inB_iff _ _ _).mp h2
    obtain ⟨n, rfl⟩ := nat_of h4.1
    simp only [if_pos h]
    exact Ev.bind (implWait_ev l i n (by omega) (by omega) (h3 i (by simp))) (Ev.now _)
  · simp only [if_neg h]
    exact Ev.now _
def bothM (l : List Int) (i j s : Int) : Int × Int := if codeM l (inB 0 ((l.length : Int) - 1) s) [i, j] = 0 then (mx (waitM l i s.toNat) (waitM l j s.toNat), 0) else (0, codeM l (inB 0 ((l.length : Int) - 1) s) [i, j])
theorem specBoth_ev (l : List Int) (i j s : Int) (hl : l.length ≤ 35184372088832) : Ev (fun k => spec_WaitForBoth.f k l i j s) (bothM l i j s) := by
  unfold spec_WaitForBoth.f bothM
  refine Ev.bind (l10Code_ev l s [i, j] hl (by simp)) ?_
  by_cases h : codeM l (inB 0 ((l.length : Int) - 1) s) [i, j] = 0
  · obtain ⟨h1, h2, h3, _⟩ := codeM_zero h
    have h4 := (inB_iff _ _ _).mp h2
    obtain ⟨n, rfl⟩ := nat_of h4.1
    simp only [if_pos h]
    exact Ev.bind (specWait_ev l i n (by omega) (by omega) (by omega)) (Ev.bind (specWait_ev l j n (by omega) (by omega) (by omega)) (Ev.now _))
  · simp only [if_neg h]
    exact Ev.now _
theorem implBoth_ev (l : List Int) (i j s : Int) (hl : l.length ≤ 35184372088832) : Ev (fun k => impl_WaitForBoth.f k l i j s) (bothM l i j s) := by
  unfold impl_WaitForBoth.f bothM
  refine ev_bnd (isSlot_some l s hl) (ev_bnd (waitCode_some _ _ _) ?_)
  by_cases h : codeM l (inB 0 ((l.length : Int) - 1) s) [i, j] = 0
  · obtain ⟨h1, h2, h3, _⟩ := codeM_zero h
    have h4 := (inB_iff _ _ _).mp h2
    obtain ⟨n, rfl⟩ := nat_of h4.1
    simp only [if_pos h]
    exact Ev.bind (implWait_ev l i n (by omega) (by omega) (h3 i (by simp))) (Ev.bind (implWait_ev l j n (by omega) (by omega) (h3 j (by simp))) (Ev.now _))
  · simp only [if_neg h]
    exact Ev.now _
theorem inB00 {l : List Int} (h : 1 ≤ l.length) : inB 0 ((l.length : Int) - 1) 0 = true := (inB_iff _ _ _).mpr (by omega)
theorem codeM_true (l ts : List Int) : codeM l (inB 0 ((l.length : Int) - 1) 0) ts = codeM l true ts := by
  unfold codeM
  cases h : turnsB l 8
  · simp
  · rw [inB00 ((turnsB_iff l 8).mp h).1.1]

/-! worst slots -/
def worstGo (l : List Int) (i : Int) : Nat → Nat → Int → Int → Int × Int × Int
  | 0, _, b, m => (b, m, 0)
  | f + 1, s, b, m => if waitM l i s > m then worstGo l i f (s + 1) s (waitM l i s) else worstGo l i f (s + 1) b m
theorem specWorst_loop (l : List Int) (i : Int) (hl : l.length ≤ 1000) (h0 : 0 < l.length) : ∀ (f s : Nat) (b m : Int), l.length - s = f →
    Ev (fun k => spec_WorstSlot.l0 k l i b m s) (worstGo l i f s b m) := by
  intro f
  induction f with
  | zero =>
    intro s b m hf
    refine ev_succ ?_
    simp only [spec_WorstSlot.l0]
    exact ev_neg (by omega) (Ev.now _)
  | succ f ih =>
    intro s b m hf
    refine ev_succ ?_
    simp only [spec_WorstSlot.l0]
    refine ev_pos (by omega) (Ev.bind (specWait_ev l i s hl (by omega) h0) ?_)
    rw [w64n (by omega)]
    simp only [worstGo]
    by_cases e : waitM l i s > m
    · refine ev_pos e ?_
      rw [if_pos e]
      exact ih (s + 1) s (waitM l i s) (by omega)
    · refine ev_neg e ?_
      rw [if_neg e]
      exact ih (s + 1) b m (by omega)
theorem implWorst_loop (l : List Int) (i : Int) (hl : l.length ≤ 1000) (hi : i ∈ l) : ∀ (f s : Nat) (b m : Int), l.length - s = f →
    Ev (fun k => impl_WorstSlot.l0 k l i b m l.length s) (worstGo l i f s b m) := by
  intro f
  induction f with
  | zero =>
    intro s b m hf
    refine ev_succ ?_
    simp only [impl_WorstSlot.l0]
    exact ev_neg (by omega) (Ev.now _)
  | succ f ih =>
    intro s b m hf
    refine ev_succ ?_
    simp only [impl_WorstSlot.l0]
    refine ev_pos (by omega) (Ev.bind (implWait_ev l i s hl (by omega) hi) ?_)
    rw [w64n (by omega)]
    simp only [worstGo]
    by_cases e : waitM l i s > m
    · refine ev_pos e ?_
      rw [if_pos e]
      exact ih (s + 1) s (waitM l i s) (by omega)
    · refine ev_neg e ?_
      rw [if_neg e]
      exact ih (s + 1) b m (by omega)
def worstM (l : List Int) (i : Int) : Int × Int × Int := if codeM l true [i] = 0 then worstGo l i l.length 0 0 0 else (0, 0, codeM l true [i])
theorem worst_start (l : List Int) (i : Int) (h0 : 0 < l.length) (hi : i ∈ l) : worstGo l i l.length 0 0 (-1) = worstGo l i l.length 0 0 0 := by
  obtain ⟨f, hf⟩ : ∃ f, l.length = f + 1 := ⟨l.length - 1, by omega⟩
  rw [hf]
  simp only [worstGo]
  have := waitM_mem l i 0 h0 hi
  rw [if_pos (by omega)]
  by_cases e : waitM l i 0 > 0
  · rw [if_pos e]
  · rw [if_neg e, show waitM l i 0 = 0 by omega]; rfl
theorem specWorst_ev (l : List Int) (i : Int) (hl : l.length ≤ 35184372088832) : Ev (fun k => spec_WorstSlot.f k l i) (worstM l i) := by
  unfold spec_WorstSlot.f worstM
  refine Ev.bind (l10Code_ev l 0 [i] hl (by simp)) ?_
  rw [codeM_true]
  by_cases h : codeM l true [i] = 0
  · obtain ⟨h1, h2, h3, _⟩ := codeM_zero h
    simp only [if_pos h]
    exact ev_val (specWorst_loop l i (by omega) (by omega) l.length 0 0 (-1) (by omega)) (worst_start l i (by omega) (h3 i (by simp)))
  · simp only [if_neg h]
    exact Ev.now _
theorem implWorst_ev (l : List Int) (i : Int) : Ev (fun k => impl_WorstSlot.f k l i) (worstM l i) := by
  unfold impl_WorstSlot.f worstM
  refine ev_bnd (waitCode_some _ _ _) ?_
  by_cases h : codeM l true [i] = 0
  · obtain ⟨h1, h2, h3, _⟩ := codeM_zero h
    simp only [if_pos h]
    exact ev_bnd (len_some l) (implWorst_loop l i (by omega) (h3 i (by simp)) l.length 0 0 0 (by omega))
  · simp only [if_neg h]
    exact Ev.now _

/-! counts -/
def countGo (l : List Int) (i n : Int) : Nat → Nat → Nat → Int × Int
  | 0, _, c => ((c : Int), 0)
  | f + 1, s, c => if waitM l i s ≤ n then countGo l i n f (s + 1) (c + 1) else countGo l i n f (s + 1) c
theorem specCount_loop (l : List Int) (i n : Int) (hl : l.length ≤ 1000) (h0 : 0 < l.length) : ∀ (f s c : Nat), l.length - s = f → c ≤ s →
    Ev (fun k => spec_CountWithin.l0 k l i n c s) (countGo l i n f s c) := by
  intro f
  induction f with
  | zero =>
    intro s c hf hc
    refine ev_succ ?_
    simp only [spec_CountWithin.l0]
    exact ev_neg (by omega) (Ev.now _)
  | succ f ih =>
    intro s c hf hc
    refine ev_succ ?_
    simp only [spec_CountWithin.l0]
    refine ev_pos (by omega) (Ev.bind (specWait_ev l i s hl (by omega) h0) ?_)
    rw [w64n (by omega), w64n (by omega)]
    simp only [countGo]
    by_cases e : waitM l i s ≤ n
    · refine ev_pos e ?_
      rw [if_pos e]
      exact ih (s + 1) (c + 1) (by omega) (by omega)
    · refine ev_neg e ?_
      rw [if_neg e]
      exact ih (s + 1) c (by omega) (by omega)
theorem implCount_loop (l : List Int) (i n : Int) (hl : l.length ≤ 1000) (hi : i ∈ l) : ∀ (f s c : Nat), l.length - s = f → c ≤ s → s ≤ l.length →
    Ev (fun k => impl_CountWithin.l0 k l i n c l.length s) (countGo l i n f s c) := by
  intro f
  induction f with
  | zero =>
    intro s c hf hc hs
    refine ev_succ ?_
    simp only [impl_CountWithin.l0]
    exact ev_neg (by omega) (Ev.now _)
  | succ f ih =>
    intro s c hf hc hs
    refine ev_succ ?_
    simp only [impl_CountWithin.l0]
    refine ev_pos (by omega) (Ev.bind (implWait_ev l i s hl (by omega) hi) ?_)
    rw [w64n (by omega), w64n (by omega)]
    simp only [countGo]
    by_cases e : waitM l i s ≤ n
    · refine ev_pos e ?_
      rw [if_pos e]
      exact ih (s + 1) (c + 1) (by omega) (by omega) (by omega)
    · refine ev_neg e ?_
      rw [if_neg e]
      exact ih (s + 1) c (by omega) (by omega) (by omega)
def countM (l : List Int) (i n : Int) : Int × Int := if codeM l (inB 0 120 n) [i] = 0 then countGo l i n l.length 0 0 else (0, codeM l (inB 0 120 n) [i])
theorem codeM_val (l : List Int) (ok : Bool) (ts : List Int) : codeM l ok ts = 0 ∨ codeM l ok ts = 2 ∨ codeM l ok ts = 4 := by
  unfold codeM
  split
  · split <;> simp
  · simp
theorem codeM_ok (l : List Int) (ok : Bool) (ts : List Int) : codeM l ok ts = if codeM l true ts = 2 then 2 else if ok = true then codeM l true ts else 2 := by
  unfold codeM
  cases ok
  · simp
  · simp only [Bool.and_true]
    by_cases h : (turnsB l 8 && ts.all (inB 0 7)) = true
    · rw [if_pos h]
      split <;> simp
    · rw [if_neg h]; simp
theorem specCount_ev (l : List Int) (i n : Int) (hl : l.length ≤ 35184372088832) : Ev (fun k => spec_CountWithin.f k l i n) (countM l i n) := by
  unfold spec_CountWithin.f countM
  refine Ev.bind (l10Code_ev l 0 [i] hl (by simp)) ?_
  rw [codeM_true, codeM_ok l (inB 0 120 n)]
  by_cases h2 : codeM l true [i] = 2
  · refine ev_pos h2 (ev_succ ?_)
    simp only [spec_CountWithin.j0]
    refine ev_neg (by simp) (ev_succ ?_)
    simp only [spec_CountWithin.j1]
    refine ev_neg (by omega) (ev_val (Ev.now _) ?_)
    simp [h2]
  · refine ev_neg h2 (ev_bnd (in_some _ _ _) (ev_succ ?_))
    rw [if_neg h2]
    simp only [spec_CountWithin.j0]
    cases hb : inB 0 120 n
    · refine ev_pos rfl (ev_succ ?_)
      simp only [spec_CountWithin.j1]
      exact ev_neg (by omega) (ev_val (Ev.now _) (by simp))
    · refine ev_neg (by simp) (ev_succ ?_)
      simp only [spec_CountWithin.j1]
      simp only [if_true]
      by_cases h0 : codeM l true [i] = 0
      · obtain ⟨h1, _⟩ := codeM_zero h0
        refine ev_pos h0 ?_
        rw [if_pos h0]
        exact specCount_loop l i n (by omega) (by omega) l.length 0 0 (by omega) (by omega)
      · refine ev_neg h0 ?_
        rw [if_neg h0]
        exact Ev.now _
theorem implCount_ev (l : List Int) (i n : Int) : Ev (fun k => impl_CountWithin.f k l i n) (countM l i n) := by
  unfold impl_CountWithin.f countM
  refine ev_bnd (within_some _ _ _) (ev_bnd (waitCode_some _ _ _) ?_)
  by_cases h : codeM l (inB 0 120 n) [i] = 0
  · obtain ⟨h1, h2, h3, _⟩ := codeM_zero h
    simp only [if_pos h]
    exact ev_bnd (len_some l) (implCount_loop l i n (by omega) (h3 i (by simp)) l.length 0 0 (by omega) (by omega) (by omega))
  · simp only [if_neg h]
    exact Ev.now _

/-! sums and means -/
def sumGo (l : List Int) (i j : Int) : Nat → Nat → Int → Int
  | 0, _, a => a
  | f + 1, s, a => sumGo l i j f (s + 1) (a + mx (waitM l i s) (waitM l j s))
theorem mx_same (x : Int) : mx x x = x := by unfold mx; split <;> rfl
theorem mx_b {x y a b : Int} (h1 : a ≤ x) (h2 : x ≤ b) (h3 : a ≤ y) (h4 : y ≤ b) : a ≤ mx x y ∧ mx x y ≤ b := by unfold mx; split <;> omega
theorem sumGo_b (l : List Int) (i j : Int) (hi : i ∈ l) (hj : j ∈ l) (hl : l.length ≤ 120) : ∀ (f s : Nat) (a : Int), l.length - s = f → 0 ≤ a → a ≤ 120 * s → 0 ≤ sumGo l i j f s a ∧ sumGo l i j f s a ≤ 120 * (s + f) := by
  intro f
  induction f with
  | zero => intro s a hf h1 h2; simp only [sumGo]; omega
  | succ f ih =>
    intro s a hf h1 h2
    simp only [sumGo]
    have h3 := waitM_mem l i s (by omega) hi
    have h4 := waitM_mem l j s (by omega) hj
    have h5 := mx_b (a := 0) (b := 120) h3.1 (by omega) h4.1 (by omega)
    have := ih (s + 1) (a + mx (waitM l i s) (waitM l j s)) (by omega) (by omega) (by omega)
    omega
theorem specSum_loop (l : List Int) (i j : Int) (hi : i ∈ l) (hj : j ∈ l) (hl : l.length ≤ 120) : ∀ (f s : Nat) (a : Int), l.length - s = f → 0 ≤ a → a ≤ 120 * s → s ≤ l.length →
    Ev (fun k => spec_l10Sum.l0 k l i j a s) (sumGo l i j f s a) := by
  intro f
  induction f with
  | zero =>
    intro s a hf h1 h2 hs
    refine ev_succ ?_
    simp only [spec_l10Sum.l0]
    exact ev_neg (by omega) (Ev.now _)
  | succ f ih =>
    intro s a hf h1 h2 hs
    have h3 := waitM_mem l i s (by omega) hi
    have h4 := waitM_mem l j s (by omega) hj
    have h5 := mx_b (a := 0) (b := 120) h3.1 (by omega) h4.1 (by omega)
    refine ev_succ ?_
    simp only [spec_l10Sum.l0]
    refine ev_pos (by omega) (Ev.bind (specWait_ev l i s (by omega) (by omega) (by omega)) (Ev.bind (specWait_ev l j s (by omega) (by omega) (by omega)) ?_))
    rw [w64n (by omega), w64 (by omega) (by omega)]
    exact ih (s + 1) _ (by omega) (by omega) (by omega) (by omega)
theorem specSum_ev (l : List Int) (i j : Int) (hi : i ∈ l) (hj : j ∈ l) (hl : l.length ≤ 120) : Ev (fun k => spec_l10Sum.f k l i j) (sumGo l i j l.length 0 0) := by
  unfold spec_l10Sum.f
  exact specSum_loop l i j hi hj hl l.length 0 0 (by omega) (by omega) (by omega) (by omega)
theorem implSum_loop (l : List Int) (i : Int) (hi : i ∈ l) (hl : l.length ≤ 120) : ∀ (f s : Nat) (a : Int), l.length - s = f → 0 ≤ a → a ≤ 120 * s → s ≤ l.length →
    Ev (fun k => impl_sumOfWaits.l0 k l i a l.length s) (sumGo l i i f s a) := by
  intro f
  induction f with
  | zero =>
    intro s a hf h1 h2 hs
    refine ev_succ ?_
    simp only [impl_sumOfWaits.l0]
    exact ev_neg (by omega) (Ev.now _)
  | succ f ih =>
    intro s a hf h1 h2 hs
    have h3 := waitM_mem l i s (by omega) hi
    refine ev_succ ?_
    simp only [impl_sumOfWaits.l0]
    refine ev_pos (by omega) (Ev.bind (implWait_ev l i s (by omega) (by omega) hi) ?_)
    rw [w64n (by omega), w64 (by omega) (by omega)]
    simp only [sumGo]
    rw [mx_same]
    exact ih (s + 1) _ (by omega) (by omega) (by omega) (by omega)
theorem implSum_ev (l : List Int) (i : Int) (hi : i ∈ l) (hl : l.length ≤ 120) : Ev (fun k => impl_sumOfWaits.f k l i) (sumGo l i i l.length 0 0) := by
  unfold impl_sumOfWaits.f
  exact ev_bnd (len_some l) (implSum_loop l i hi hl l.length 0 0 (by omega) (by omega) (by omega) (by omega))
def lowM (a b : Nat) : Int × Int × Int := (((a / Nat.gcd a b : Nat) : Int), ((b / Nat.gcd a b : Nat) : Int), 0)
def meanM (l : List Int) (i j : Int) : Int × Int × Int := if codeM l true [i, j] = 0 then lowM (sumGo l i j l.length 0 0).toNat l.length else (0, 0, codeM l true [i, j])
theorem codeM_one (l : List Int) (i : Int) : codeM l true [i, i] = codeM l true [i] := by
  unfold codeM
  simp
theorem low_then {a b : Nat} (hb : 0 < b) (ha : a ≤ 9223372036854775807) (hb2 : b ≤ 9223372036854775807) : Ev (fun k => (spec_l01Lowest.f k (a : Int) (b : Int)).bind fun t => some (t.1, t.2, (0 : Int))) (lowM a b) :=
  Ev.bind (lowest_ev a b hb ha hb2) (Ev.now _)
theorem frac_then {a b : Nat} (hb : 0 < b) (ha : a ≤ 9223372036854775807) (hb2 : b ≤ 9223372036854775807) : Ev (fun k => (impl_fraction.f k (a : Int) (b : Int)).bind fun t => some (t.1, t.2.1, t.2.2)) (lowM a b) :=
  Ev.bind (fraction_ev a b hb ha hb2) (Ev.now _)
theorem specMean_ev (l : List Int) (i : Int) (hl : l.length ≤ 35184372088832) : Ev (fun k => spec_MeanWait.f k l i) (meanM l i i) := by
  unfold spec_MeanWait.f meanM
  refine Ev.bind (l10Code_ev l 0 [i] hl (by simp)) ?_
  rw [codeM_true, codeM_one]
  by_cases h : codeM l true [i] = 0
  · obtain ⟨h1, h2, h3, _⟩ := codeM_zero h
    have hi := h3 i (by simp)
    have hb := sumGo_b l i i hi hi h1.2 l.length 0 0 (by omega) (by omega) (by omega)
    simp only [if_pos h]
    refine Ev.bind (specSum_ev l i i hi hi h1.2) ?_
    obtain ⟨m, hm⟩ := nat_of hb.1
    rw [hm, Int.toNat_natCast]
    exact low_then (by omega) (by omega) (by omega)
  · simp only [if_neg h]
    exact Ev.now _
theorem implMean_ev (l : List Int) (i : Int) : Ev (fun k => impl_MeanWait.f k l i) (meanM l i i) := by
  unfold impl_MeanWait.f meanM
  refine ev_bnd (waitCode_some _ _ _) ?_
  rw [codeM_one]
  by_cases h : codeM l true [i] = 0
  · obtain ⟨h1, h2, h3, _⟩ := codeM_zero h
    have hi := h3 i (by simp)
    have hb := sumGo_b l i i hi hi h1.2 l.length 0 0 (by omega) (by omega) (by omega)
    simp only [if_pos h]
    refine Ev.bind (implSum_ev l i hi h1.2) (ev_bnd (len_some l) ?_)
    obtain ⟨m, hm⟩ := nat_of hb.1
    rw [hm, Int.toNat_natCast]
    exact frac_then (by omega) (by omega) (by omega)
  · simp only [if_neg h]
    exact Ev.now _
theorem specMeanBoth_ev (l : List Int) (i j : Int) (hl : l.length ≤ 35184372088832) : Ev (fun k => spec_MeanForBoth.f k l i j) (meanM l i j) := by
  unfold spec_MeanForBoth.f meanM
  refine Ev.bind (l10Code_ev l 0 [i, j] hl (by simp)) ?_
  rw [codeM_true]
  by_cases h : codeM l true [i, j] = 0
  · obtain ⟨h1, h2, h3, _⟩ := codeM_zero h
    have hi := h3 i (by simp)
    have hj := h3 j (by simp)
    have hb := sumGo_b l i j hi hj h1.2 l.length 0 0 (by omega) (by omega) (by omega)
    simp only [if_pos h]
    refine Ev.bind (specSum_ev l i j hi hj h1.2) ?_
    obtain ⟨m, hm⟩ := nat_of hb.1
    rw [hm, Int.toNat_natCast]
    exact low_then (by omega) (by omega) (by omega)
  · simp only [if_neg h]
    exact Ev.now _
theorem implMeanBoth_loop (l : List Int) (i j : Int) (hi : i ∈ l) (hj : j ∈ l) (hl : l.length ≤ 120) (h0 : 0 < l.length) : ∀ (f s : Nat) (a : Int), l.length - s = f → 0 ≤ a → a ≤ 120 * s → s ≤ l.length →
    Ev (fun k => impl_MeanForBoth.l0 k l i j a l.length s) (lowM (sumGo l i j f s a).toNat l.length) := by
  intro f
  induction f with
  | zero =>
    intro s a hf h1 h2 hs
    refine ev_succ ?_
    simp only [impl_MeanForBoth.l0]
    refine ev_neg (by omega) (ev_bnd (len_some l) ?_)
    obtain ⟨m, rfl⟩ := nat_of h1
    simp only [sumGo]
    rw [Int.toNat_natCast]
    exact frac_then (by omega) (by omega) (by omega)
  | succ f ih =>
    intro s a hf h1 h2 hs
    have h3 := waitM_mem l i s (by omega) hi
    have h4 := waitM_mem l j s (by omega) hj
    have h5 := mx_b (a := 0) (b := 120) h3.1 (by omega) h4.1 (by omega)
    refine ev_succ ?_
    simp only [impl_MeanForBoth.l0]
    refine ev_pos (by omega) (Ev.bind (implWait_ev l i s (by omega) (by omega) hi) (Ev.bind (implWait_ev l j s (by omega) (by omega) hj) ?_))
    rw [w64n (by omega), w64 (by omega) (by omega)]
    exact ih (s + 1) _ (by omega) (by omega) (by omega) (by omega)
theorem implMeanBoth_ev (l : List Int) (i j : Int) : Ev (fun k => impl_MeanForBoth.f k l i j) (meanM l i j) := by
  unfold impl_MeanForBoth.f meanM
  refine ev_bnd (waitCode_some _ _ _) ?_
  by_cases h : codeM l true [i, j] = 0
  · obtain ⟨h1, h2, h3, _⟩ := codeM_zero h
    simp only [if_pos h]
    exact ev_bnd (len_some l) (implMeanBoth_loop l i j (h3 i (by simp)) (h3 j (by simp)) h1.2 (by omega) l.length 0 0 (by omega) (by omega) (by omega) (by omega))
  · simp only [if_neg h]
    exact Ev.now _
end Go.Proofs.Ytdleajokhhijhaa.Pb
