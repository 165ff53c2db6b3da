/- Waits for a task, the reference's and the program's; their codes, sums, worst ones. -/
import Derived.Test.YtdleajokhhijhaaMx1
import Derived.Test.YtdleajokhhijhaaMx2
import Derived.Test.YtdleajokhhijhaaMx3
import Derived.Test.YtdleajokhhijhaaMuEven
import Derived.Test.YtdleajokhhijhaaMuTurns
set_option linter.unusedVariables false
set_option linter.unusedSimpArgs false
namespace Go.Proofs.Ytdleajokhhijhaa.Mb
open Go.RowKit Go.Proofs.YtdleajokhhijhaaW.PrintWords Go.Proofs.YtdleajokhhijhaaW.PrintLast Go.Proofs.Ytdleajokhhijhaa.M

theorem len_some (l : List Int) : impl_length_int64.f l = some (l.length : Int) := rfl
theorem l10Turns_loop (l ts : List Int) (hl : l.length ≤ 35184372088832) (ht : ts.length ≤ 35184372088832) : ∀ (suf : List Int) (i : Nat), ts.drop i = suf →
    Ev (fun k => spec_l10Turns.l0 k l ts i) (suf.all (inB 0 7) && turnsB l 8) := by
  intro suf
  induction suf with
  | nil =>
    intro i h
    have hi := drop_nil h
    refine ev_succ ?_
    simp only [spec_l10Turns.l0]
    exact ev_neg (by omega) (Ev.bind (l01Turns_ev l 8 (by omega) (by omega) hl) (ev_val (Ev.now _) (by simp)))
  | cons x suf ih =>
    intro i h
    obtain ⟨hi, hx, hs⟩ := drop_split h
    refine ev_succ ?_
    simp only [spec_l10Turns.l0]
    refine ev_pos (by omega) (ev_pos (by omega) (ev_bnd (in_some _ _ _) ?_))
    rw [hx]
    by_cases hb : inB 0 7 x = true
    · refine ev_pos hb ?_
      rw [w64n (by omega)]
      exact ev_val (ih (i + 1) hs) (by simp [hb])
    · exact ev_neg hb (ev_val (Ev.now _) (by simp [hb]))
theorem l10Turns_ev (l ts : List Int) (hl : l.length ≤ 35184372088832) (ht : ts.length ≤ 35184372088832) : Ev (fun k => spec_l10Turns.f k l ts) (ts.all (inB 0 7) && turnsB l 8) := by
  unfold spec_l10Turns.f
  exact l10Turns_loop l ts hl ht ts 0 (by simp)

/-- The wait for task i from slot s on, d slots having gone by, f more to be looked at; -1 if there is no turn in them. -/
def waitGo (l : List Int) (i : Int) (s : Nat) : Nat → Nat → Int
  | 0, _ => -1
  | f + 1, d => if rd l (((s + d) % l.length : Nat) : Int) = i then (d : Int) else waitGo l i s f (d + 1)
def waitM (l : List Int) (i : Int) (s : Nat) : Int := waitGo l i s l.length 0
theorem waitGo_le (l : List Int) (i : Int) (s : Nat) : ∀ f d, waitGo l i s f d = -1 ∨ ((d : Int) ≤ waitGo l i s f d ∧ waitGo l i s f d < (d : Int) + f) := by
  intro f
  induction f with
  | zero => intro d; exact .inl rfl
  | succ f ih =>
    intro d
    simp only [waitGo]
    split
    · exact .inr ⟨by omega, by omega⟩
    · rcases ih (d + 1) with h | h
      · exact .inl h
      · exact .inr ⟨by omega, by omega⟩
theorem waitGo_none (l : List Int) (i : Int) (s : Nat) : ∀ f d, waitGo l i s f d = -1 → ∀ e, d ≤ e → e < d + f → rd l (((s + e) % l.length : Nat) : Int) ≠ i := by
  intro f
  induction f with
  | zero => intro d h e h1 h2; omega
  | succ f ih =>
    intro d h e h1 h2
    simp only [waitGo] at h
    split at h
    · omega
    · rename_i hne
      rcases Nat.eq_or_lt_of_le h1 with rfl | h1
      · exact hne
      · exact ih (d + 1) h e h1 (by omega)
theorem waitGo_hit (l : List Int) (i : Int) (s : Nat) : ∀ f d, 0 ≤ waitGo l i s f d → rd l (((s + (waitGo l i s f d).toNat) % l.length : Nat) : Int) = i := by
  intro f
  induction f with
  | zero => intro d h; simp [waitGo] at h
  | succ f ih =>
    intro d h
    simp only [waitGo] at h ⊢
    split
    · rename_i e; rw [Int.toNat_natCast]; exact e
    · rename_i e
      rw [if_neg e] at h
      exact ih (d + 1) h
theorem waitM_neg (l : List Int) (i : Int) (s : Nat) (hs : s < l.length) : waitM l i s = -1 ↔ i ∉ l := by
  constructor
  · intro h hi
    obtain ⟨j, hj, e⟩ := List.mem_iff_getElem.mp hi
    have := waitGo_none l i s l.length 0 h (if s ≤ j then j - s else j + l.length - s) (by omega) (by split <;> omega)
    apply this
    have hm : (s + (if s ≤ j then j - s else j + l.length - s)) % l.length = j := by
      split
      · rw [show s + (j - s) = j by omega]; exact Nat.mod_eq_of_lt hj
      · rw [show s + (j + l.length - s) = j + l.length by omega, Nat.add_mod_right]; exact Nat.mod_eq_of_lt hj
    rw [hm, rd_lt hj]
    exact e
  · intro h
    rcases waitGo_le l i s l.length 0 with h1 | h1
    · exact h1
    · exfalso
      have := waitGo_hit l i s l.length 0 (by omega)
      apply h
      rw [← this]
      exact rd_mem (Nat.mod_lt _ (by omega))
theorem waitM_mem (l : List Int) (i : Int) (s : Nat) (hs : s < l.length) (hi : i ∈ l) : 0 ≤ waitM l i s ∧ waitM l i s < l.length := by
  rcases waitGo_le l i s l.length 0 with h1 | h1
  · exact absurd hi ((waitM_neg l i s hs).mp h1)
  · exact ⟨by have := h1.1; simpa [waitM] using this, by have := h1.2; simpa [waitM] using this⟩
theorem waitM_ge (l : List Int) (i : Int) (s : Nat) : -1 ≤ waitM l i s ∧ waitM l i s < max l.length 1 := by
  rcases waitGo_le l i s l.length 0 with h1 | h1
  · unfold waitM; omega
  · unfold waitM; omega
theorem slotAt (l : List Int) (s d : Nat) (hl : l.length ≤ 1000) (hs : s ≤ 1000) (hd : d ≤ 1000) : Int.tmod (wrap64 ((s : Int) + (d : Int))) (l.length : Int) = (((s + d) % l.length : Nat) : Int) := by
  rw [w64 (by omega) (by omega), ← Int.natCast_add]; rfl
theorem specWait_loop (l : List Int) (i : Int) (s : Nat) (hl : l.length ≤ 1000) (hs : s ≤ 1000) (h0 : 0 < l.length) : ∀ (f d : Nat), l.length - d = f → d ≤ l.length →
    Ev (fun k => spec_l10Wait.l0 k l i s l.length d) (waitGo l i s f d) := by
  intro f
  induction f with
  | zero =>
    intro d hf hd
    refine ev_succ ?_
    simp only [spec_l10Wait.l0]
    exact ev_neg (by omega) (Ev.now _)
  | succ f ih =>
    intro d hf hd
    refine ev_succ ?_
    simp only [spec_l10Wait.l0]
    rw [slotAt l s d hl hs (by omega)]
    have hm := Nat.mod_lt (s + d) h0
    refine ev_pos (by omega) (ev_neg (by omega) (ev_pos (Int.natCast_nonneg _) (ev_pos (Int.ofNat_lt.mpr hm) ?_)))
    simp only [waitGo]
    by_cases e : rd l (((s + d) % l.length : Nat) : Int) = i
    · exact ev_pos e (ev_val (Ev.now _) (by rw [if_pos e]))
    · refine ev_neg e ?_
      rw [if_neg e, w64n (by omega)]
      exact ih (d + 1) (by omega) (by omega)
theorem specWait_ev (l : List Int) (i : Int) (s : Nat) (hl : l.length ≤ 1000) (hs : s ≤ 1000) (h0 : 0 < l.length) : Ev (fun k => spec_l10Wait.f k l i s) (waitM l i s) := by
  unfold spec_l10Wait.f
  exact specWait_loop l i s hl hs h0 l.length 0 (by omega) (by omega)
theorem implWait_loop (l : List Int) (i : Int) (s : Nat) (hl : l.length ≤ 1000) (hs : s ≤ 1000) (h0 : 0 < l.length) : ∀ (f d : Nat), l.length - d = f → d ≤ l.length → 0 ≤ waitGo l i s f d →
    Ev (fun k => impl_wait.l0 k l i s d) (waitGo l i s f d) := by
  intro f
  induction f with
  | zero => intro d hf hd h; simp [waitGo] at h
  | succ f ih =>
    intro d hf hd h
    refine ev_succ ?_
    simp only [impl_wait.l0]
    refine ev_bnd (len_some l) ?_
    rw [slotAt l s d hl hs (by omega)]
    have hm := Nat.mod_lt (s + d) h0
    refine ev_neg (by omega) (ev_pos (Int.natCast_nonneg _) (ev_pos (Int.ofNat_lt.mpr hm) ?_))
    simp only [waitGo] at h ⊢
    by_cases e : rd l (((s + d) % l.length : Nat) : Int) = i
    · exact ev_pos e (ev_val (Ev.now _) (by rw [if_pos e]))
    · refine ev_neg e ?_
      rw [if_neg e] at h ⊢
      rw [w64n (by omega)]
      exact ih (d + 1) (by omega) (by omega) h
theorem implWait_ev (l : List Int) (i : Int) (s : Nat) (hl : l.length ≤ 1000) (hs : s < l.length) (hi : i ∈ l) : Ev (fun k => impl_wait.f k l i s) (waitM l i s) := by
  unfold impl_wait.f
  exact implWait_loop l i s hl (by omega) (by omega) l.length 0 (by omega) (by omega) (waitM_mem l i s hs hi).1

/-! the codes -/
def codeM (l : List Int) (ok : Bool) (ts : List Int) : Int :=
  if (turnsB l 8 && ok && ts.all (inB 0 7)) = true then (if ts.all (fun x => decide (x ∈ l)) = true then 0 else 4) else 2
theorem waitCode_some (l : List Int) (ok : Bool) (ts : List Int) : impl_waitCode.f l ok ts = some (codeM l ok ts) := by
  unfold impl_waitCode.f codeM turnsB
  rw [show wrap64 (8 - 1) = 8 - 1 from by unfold wrap64; omega]
  cases h1 : (inB 1 120 (l.length : Int) && l.all (inB (-1) (8 - 1)))
  · simp
  · cases ok
    · simp
    · simp only [if_true, Bool.true_and]
      cases h3 : ts.all (inB 0 7)
      · simp
      · simp only [if_true]
        split <;> rfl
theorem codeM_zero {l : List Int} {ok : Bool} {ts : List Int} (h : codeM l ok ts = 0) : (1 ≤ l.length ∧ l.length ≤ 120) ∧ ok = true ∧ (∀ x ∈ ts, x ∈ l) ∧ turnsB l 8 = true ∧ ∀ x ∈ ts, 0 ≤ x ∧ x ≤ 7 := by
  unfold codeM at h
  split at h
  · rename_i h1
    split at h
    · rename_i h2
      rw [Bool.and_eq_true, Bool.and_eq_true] at h1
      have h3 := (turnsB_iff l 8).mp h1.1.1
      refine ⟨h3.1, h1.1.2, ?_, h1.1.1, (all_iff _ _ _).mp h1.2⟩
      simpa [List.all_eq_true] using h2
    · omega
  · omega
theorem within_some (a b c : Int) : impl_within.f a b c = some (inB b c a) := within_inB a b c
theorem nat_of {x : Int} (h : 0 ≤ x) : ∃ n : Nat, x = (n : Int) := Int.eq_ofNat_of_zero_le h

/-! from a slot on -/
def fromM (l : List Int) (i s : Int) : Int × Int := if codeM l (inB 0 ((l.length : Int) - 1) s) [i] = 0 then (waitM l i s.toNat, 0) else (0, codeM l (inB 0 ((l.length : Int) - 1) s) [i])
def bothM (l : List Int) (i j s : Int) : Int × Int := if codeM l (inB 0 ((l.length : Int) - 1) s) [i, j] = 0 then (mx (waitM l i s.toNat) (waitM l j s.toNat), 0) else (0, codeM l (inB 0 ((l.length : Int) - 1) s) [i, j])
theorem inB00 {l : List Int} (h : 1 ≤ l.length) : inB 0 ((l.length : Int) - 1) 0 = true := (inB_iff _ _ _).mpr (by omega)
theorem codeM_true (l ts : List Int) : codeM l (inB 0 ((l.length : Int) - 1) 0) ts = codeM l true ts := by
  unfold codeM
  cases h : turnsB l 8
  · simp
  · rw [inB00 ((turnsB_iff l 8).mp h).1.1]

/-! worst slots -/
def worstGo (l : List Int) (i : Int) : Nat → Nat → Int → Int → Int × Int × Int
  | 0, _, b, m => (b, m, 0)
  | f + 1, s, b, m => if waitM l i s > m then worstGo l i f (s + 1) s (waitM l i s) else worstGo l i f (s + 1) b m
def worstM (l : List Int) (i : Int) : Int × Int × Int := if codeM l true [i] = 0 then worstGo l i l.length 0 0 0 else (0, 0, codeM l true [i])
theorem worst_start (l : List Int) (i : Int) (h0 : 0 < l.length) (hi : i ∈ l) : worstGo l i l.length 0 0 (-1) = worstGo l i l.length 0 0 0 := by
  obtain ⟨f, hf⟩ : ∃ f, l.length = f + 1 := ⟨l.length - 1, by omega⟩
  rw [hf]
  simp only [worstGo]
  have := waitM_mem l i 0 h0 hi
  rw [if_pos (by omega)]
  by_cases e : waitM l i 0 > 0
  · rw [if_pos e]
  · rw [if_neg e, show waitM l i 0 = 0 by omega]; rfl
/-! counts -/
def countGo (l : List Int) (i n : Int) : Nat → Nat → Nat → Int × Int
  | 0, _, c => ((c : Int), 0)
  | f + 1, s, c => if waitM l i s ≤ n then countGo l i n f (s + 1) (c + 1) else countGo l i n f (s + 1) c
def countM (l : List Int) (i n : Int) : Int × Int := if codeM l (inB 0 120 n) [i] = 0 then countGo l i n l.length 0 0 else (0, codeM l (inB 0 120 n) [i])
theorem codeM_val (l : List Int) (ok : Bool) (ts : List Int) : codeM l ok ts = 0 ∨ codeM l ok ts = 2 ∨ codeM l ok ts = 4 := by
  unfold codeM
  split
  · split <;> simp
  · simp
theorem codeM_ok (l : List Int) (ok : Bool) (ts : List Int) : codeM l ok ts = if codeM l true ts = 2 then 2 else if ok = true then codeM l true ts else 2 := by
  unfold codeM
  cases ok
  · simp
  · simp only [Bool.and_true]
    by_cases h : (turnsB l 8 && ts.all (inB 0 7)) = true
    · rw [if_pos h]
      split <;> simp
    · rw [if_neg h]; simp
/-! sums and means -/
def sumGo (l : List Int) (i j : Int) : Nat → Nat → Int → Int
  | 0, _, a => a
  | f + 1, s, a => sumGo l i j f (s + 1) (a + mx (waitM l i s) (waitM l j s))
theorem mx_same (x : Int) : mx x x = x := by unfold mx; split <;> rfl
theorem mx_b {x y a b : Int} (h1 : a ≤ x) (h2 : x ≤ b) (h3 : a ≤ y) (h4 : y ≤ b) : a ≤ mx x y ∧ mx x y ≤ b := by unfold mx; split <;> omega
theorem sumGo_b (l : List Int) (i j : Int) (hi : i ∈ l) (hj : j ∈ l) (hl : l.length ≤ 120) : ∀ (f s : Nat) (a : Int), l.length - s = f → 0 ≤ a → a ≤ 120 * s → 0 ≤ sumGo l i j f s a ∧ sumGo l i j f s a ≤ 120 * (s + f) := by
  intro f
  induction f with
  | zero => intro s a hf h1 h2; simp only [sumGo]; omega
  | succ f ih =>
    intro s a hf h1 h2
    simp only [sumGo]
    have h3 := waitM_mem l i s (by omega) hi
    have h4 := waitM_mem l j s (by omega) hj
    have h5 := mx_b (a := 0) (b := 120) h3.1 (by omega) h4.1 (by omega)
    have := ih (s + 1) (a + mx (waitM l i s) (waitM l j s)) (by omega) (by omega) (by omega)
    omega
theorem specSum_loop (l : List Int) (i j : Int) (hi : i ∈ l) (hj : j ∈ l) (hl : l.length ≤ 120) : ∀ (f s : Nat) (a : Int), l.length - s = f → 0 ≤ a → a ≤ 120 * s → s ≤ l.length →
    Ev (fun k => spec_l10Sum.l0 k l i j a s) (sumGo l i j f s a) := by
  intro f
  induction f with
  | zero =>
    intro s a hf h1 h2 hs
    refine ev_succ ?_
    simp only [spec_l10Sum.l0]
    exact ev_neg (by omega) (Ev.now _)
  | succ f ih =>
    intro s a hf h1 h2 hs
    have h3 := waitM_mem l i s (by omega) hi
    have h4 := waitM_mem l j s (by omega) hj
    have h5 := mx_b (a := 0) (b := 120) h3.1 (by omega) h4.1 (by omega)
    refine ev_succ ?_
    simp only [spec_l10Sum.l0]
    refine ev_pos (by omega) (Ev.bind (specWait_ev l i s (by omega) (by omega) (by omega)) (Ev.bind (specWait_ev l j s (by omega) (by omega) (by omega)) ?_))
    rw [w64n (by omega), w64 (by omega) (by omega)]
    exact ih (s + 1) _ (by omega) (by omega) (by omega) (by omega)
theorem specSum_ev (l : List Int) (i j : Int) (hi : i ∈ l) (hj : j ∈ l) (hl : l.length ≤ 120) : Ev (fun k => spec_l10Sum.f k l i j) (sumGo l i j l.length 0 0) := by
  unfold spec_l10Sum.f
  exact specSum_loop l i j hi hj hl l.length 0 0 (by omega) (by omega) (by omega) (by omega)
theorem implSum_loop (l : List Int) (i : Int) (hi : i ∈ l) (hl : l.length ≤ 120) : ∀ (f s : Nat) (a : Int), l.length - s = f → 0 ≤ a → a ≤ 120 * s → s ≤ l.length →
    Ev (fun k => impl_sumOfWaits.l0 k l i a l.length s) (sumGo l i i f s a) := by
  intro f
  induction f with
  | zero =>
    intro s a hf h1 h2 hs
    refine ev_succ ?_
    simp only [impl_sumOfWaits.l0]
    exact ev_neg (by omega) (Ev.now _)
  | succ f ih =>
    intro s a hf h1 h2 hs
    have h3 := waitM_mem l i s (by omega) hi
    refine ev_succ ?_
    simp only [impl_sumOfWaits.l0]
    refine ev_pos (by omega) (Ev.bind (implWait_ev l i s (by omega) (by omega) hi) ?_)
    rw [w64n (by omega), w64 (by omega) (by omega)]
    simp only [sumGo]
    rw [mx_same]
    exact ih (s + 1) _ (by omega) (by omega) (by omega) (by omega)
theorem implSum_ev (l : List Int) (i : Int) (hi : i ∈ l) (hl : l.length ≤ 120) : Ev (fun k => impl_sumOfWaits.f k l i) (sumGo l i i l.length 0 0) := by
  unfold impl_sumOfWaits.f
  exact ev_bnd (len_some l) (implSum_loop l i hi hl l.length 0 0 (by omega) (by omega) (by omega) (by omega))
def lowM (a b : Nat) : Int × Int × Int := (((a / Nat.gcd a b : Nat) : Int), ((b / Nat.gcd a b : Nat) : Int), 0)
def meanM (l : List Int) (i j : Int) : Int × Int × Int := if codeM l true [i, j] = 0 then lowM (sumGo l i j l.length 0 0).toNat l.length else (0, 0, codeM l true [i, j])
theorem codeM_one (l : List Int) (i : Int) : codeM l true [i, i] = codeM l true [i] := by
  unfold codeM
  simp
theorem low_then {a b : Nat} (hb : 0 < b) (ha : a ≤ 9223372036854775807) (hb2 : b ≤ 9223372036854775807) : Ev (fun k => (spec_l01Lowest.f k (a : Int) (b : Int)).bind fun t => some (t.1, t.2, (0 : Int))) (lowM a b) :=
  Ev.bind (lowest_ev a b hb ha hb2) (Ev.now _)
theorem frac_then {a b : Nat} (hb : 0 < b) (ha : a ≤ 9223372036854775807) (hb2 : b ≤ 9223372036854775807) : Ev (fun k => (impl_fraction.f k (a : Int) (b : Int)).bind fun t => some (t.1, t.2.1, t.2.2)) (lowM a b) :=
  Ev.bind (fraction_ev a b hb ha hb2) (Ev.now _)
end Go.Proofs.Ytdleajokhhijhaa.Mb
