/- Turns of jobs: their gaps, and the turns of the jobs of tasks. -/
import Derived.Test.YtmgdobiloapelaaQDem
import Derived.Test.YtmgdobiloapelaaQWaits
set_option linter.unusedVariables false
set_option linter.unusedSimpArgs false
namespace Go.Proofs.Ytmgdobiloapelaa.Vf
open Go Go.V Go.RowKit

/-! ### What the slots hold -/
theorem edf_take {L P D : List Int} : ∀ (d : Nat) (s : Int) (l u out : List Int), (edf L P D d s l u out).1.take out.length = out
  | 0, s, l, u, out => by rw [edf_zero]; exact List.take_length
  | d + 1, s, l, u, out => by
    by_cases h : 0 ≤ lateF l u s L.length 0
    · rw [edf_late h]; exact List.take_length
    · rw [edf_next h]
      have ih := edf_take (L := L) (P := P) (D := D) d (s + 1) (served (pickE L P D s L.length 0 l u (-1)).1 (pickE L P D s L.length 0 l u (-1)).2.2) (pickE L P D s L.length 0 l u (-1)).2.1 (out ++ [(pickE L P D s L.length 0 l u (-1)).2.2])
      have := congrArg (List.take out.length) ih
      rw [List.take_take, List.length_append, List.length_singleton, Nat.min_eq_left (by omega), List.take_left] at this
      exact this

theorem edf_range {L P D : List Int} (J : JobsP L P D) : ∀ (d : Nat) (s : Int) (l u out : List Int), HeldJ L l u (-1) → (∀ x ∈ out, -1 ≤ x ∧ x ≤ (L.length : Int) - 1) → ∀ x ∈ (edf L P D d s l u out).1, -1 ≤ x ∧ x ≤ (L.length : Int) - 1
  | 0, s, l, u, out, H, h => by rw [edf_zero]; exact h
  | d + 1, s, l, u, out, H, h => by
    by_cases c : 0 ≤ lateF l u s L.length 0
    · rw [edf_late c]; exact h
    · rw [edf_next c]
      have HP := H.pick J s L.length 0 l u (-1) (by omega)
      refine edf_range J d (s + 1) _ _ _ HP.serve ?_
      intro x hx
      rcases List.mem_append.1 hx with hx | hx
      · exact h x hx
      · simp only [List.mem_singleton] at hx
        rw [hx]
        have := HP.best
        omega

theorem slotsJ_range {L P D : List Int} (J : JobsP L P D) : ∀ x ∈ (slotsJ L P D).1, -1 ≤ x ∧ x ≤ (L.length : Int) - 1 := edf_range J _ _ _ _ _ (HeldJ.zero L) (by simp)

theorem invB_cnt {L P D : List Int} (J : JobsP L P D) {t : Nat} {l u out : List Int} (I : InvB L P D t l u out) (hl : ¬ 0 ≤ lateF l u t L.length 0) (h1 : 1 ≤ t) {j : Nat} (hj : j < L.length) (hdv : rd P j ∣ (t : Int)) : cntO out j * rd P j = rd L j * (t : Int) := by
  obtain ⟨hL, hPp, hD1, hDP⟩ := J.each j hj
  have hp : 0 < rd P j := by omega
  have hno : ¬ (0 < rd l j ∧ rd u j ≤ t) := by
    rcases lateF_cases l u t L.length 0 with ⟨_, h⟩ | ⟨j, h1, _⟩
    · exact h j (by omega) (by omega)
    · rw [h1] at hl; omega
  have hm := Int.emod_eq_zero_of_dvd hdv
  rcases I.one j hj with ⟨h0, _, _⟩ | ⟨h0, q1, q2, q3, q4⟩
  · omega
  · obtain ⟨e1, e2⟩ := (div_prev hp (show (1 : Int) ≤ t by omega)).1 hm
    rw [e1] at q1 q2
    have hz : rd l j = 0 := by
      rw [q1, Int.mul_sub, Int.mul_one] at hno
      omega
    rw [Int.sub_add_cancel, hz, Int.add_zero] at q2
    rw [q2, Int.mul_assoc, Int.mul_comm _ (rd P j), e2]

theorem edf_pre {L P D : List Int} (J : JobsP L P D) : ∀ (d t : Nat) (l u out : List Int), HeldJ L l u (-1) → InvB L P D t l u out → (edf L P D d t l u out).2 < 0 →
    ∀ n : Nat, t ≤ n → 1 ≤ n → n ≤ t + d → ∀ j : Nat, j < L.length → rd P j ∣ (n : Int) → cntO ((edf L P D d t l u out).1.take n) j * rd P j = rd L j * (n : Int) := by
  intro d
  induction d with
  | zero =>
    intro t l u out H I hg n h1 h2 h3 j hj hdv
    obtain rfl : n = t := by omega
    have hl : ¬ 0 ≤ lateF l u n L.length 0 := by
      rw [edf_zero] at hg
      have hg : lateF l u n L.length 0 < 0 := hg
      omega
    have := edf_take (L := L) (P := P) (D := D) 0 n l u out
    rw [I.len] at this
    rw [this]
    exact invB_cnt J I hl h2 hj hdv
  | succ d ih =>
    intro t l u out H I hg n h1 h2 h3 j hj hdv
    by_cases hl : 0 ≤ lateF l u t L.length 0
    · rw [edf_late hl] at hg
      have hg : lateF l u t L.length 0 < 0 := hg
      omega
    · by_cases c : n = t
      · subst c
        have := edf_take (L := L) (P := P) (D := D) (d + 1) n l u out
        rw [I.len] at this
        rw [this]
        exact invB_cnt J I hl h2 hj hdv
      · rw [edf_next hl] at hg ⊢
        have e : ((t + 1 : Nat) : Int) = (t : Int) + 1 := by omega
        have := ih (t + 1) _ _ _ (H.pick J t L.length 0 l u (-1) (by omega)).serve (invB_step J H I hl) (by rw [e]; exact hg) n (by omega) h2 (by omega) j hj hdv
        rw [e] at this
        exact this

theorem slotsJ_pre {L P D : List Int} (J : JobsP L P D) (h : (slotsJ L P D).2 < 0) (n : Nat) (h1 : 1 ≤ n) (h2 : n ≤ wholeN P) (j : Nat) (hj : j < L.length) (hdv : rd P j ∣ (n : Int)) : cntO ((slotsJ L P D).1.take n) j * rd P j = rd L j * (n : Int) := by
  have I0 : InvB L P D 0 (List.replicate L.length 0) (List.replicate L.length 0) [] := ⟨rfl, fun j _ => .inl ⟨rfl, rdZero _ _, by simp [cntO]⟩⟩
  exact edf_pre J (wholeN P) 0 _ _ [] (HeldJ.zero L) I0 h n (by omega) h1 (by omega) j hj hdv

/-! ### Turns with one slot in each part -/
theorem count_more {T : List Int} {j : Nat} : ∀ (d a : Nat), cntO (T.take a) j < cntO (T.take (a + d)) j → ∃ s, a ≤ s ∧ s < a + d ∧ s < T.length ∧ rd T s = (j : Int)
  | 0, a, h => by simp at h
  | d + 1, a, h => by
    by_cases c : cntO (T.take a) j < cntO (T.take (a + d)) j
    · obtain ⟨s, h1, h2, h3, h4⟩ := count_more d a c
      exact ⟨s, h1, by omega, h3, h4⟩
    · by_cases c2 : a + d < T.length
      · rw [show a + (d + 1) = (a + d) + 1 by omega, List.take_succ_eq_append_getElem c2, ← rd_lt c2, cntO_app] at h
        by_cases c3 : rd T ((a + d : Nat) : Int) = (j : Int)
        · exact ⟨a + d, by omega, by omega, c2, c3⟩
        · rw [if_neg c3] at h; omega
      · have e1 : T.take (a + (d + 1)) = T := List.take_of_length_le (by omega)
        have e2 : T.take (a + d) = T := List.take_of_length_le (by omega)
        rw [e1] at h
        rw [e2] at c
        exact absurd h c

def zrec (T : List Int) (t : Int) (z0 : Nat) : Nat → Nat
  | 0 => z0
  | j + 1 => if rd T j = t then 0 else zrec T t z0 j + 1
theorem zrec_after {T : List Int} {t : Int} {z0 s : Nat} (h : rd T s = t) : ∀ j, s < j → zrec T t z0 j ≤ j - 1 - s
  | 0, hs => by omega
  | j + 1, hs => by
    simp only [zrec]
    by_cases c : rd T j = t
    · rw [if_pos c]; omega
    · rw [if_neg c]
      by_cases e : s = j
      · subst e; exact absurd h c
      · have := zrec_after (z0 := z0) h j (by omega); omega
theorem zrec_grow {T : List Int} {t : Int} {z0 : Nat} : ∀ j, zrec T t z0 j ≤ z0 + j
  | 0 => Nat.le_refl _
  | j + 1 => by
    have := zrec_grow (T := T) (t := t) (z0 := z0) j
    simp only [zrec]; split <;> omega
theorem zrec_indep {T : List Int} {t : Int} {z0 z1 s : Nat} (h : rd T s = t) : ∀ j, s < j → zrec T t z0 j = zrec T t z1 j
  | 0, hs => by omega
  | j + 1, hs => by
    simp only [zrec]
    by_cases c : rd T j = t
    · rw [if_pos c, if_pos c]
    · by_cases e : s = j
      · subst e; exact absurd h c
      · rw [if_neg c, if_neg c, zrec_indep h j (by omega)]

theorem turn_blocks {T : List Int} {t g : Int} {p : Nat} (hp : 1 ≤ p) (hg : 2 * (p : Int) ≤ g + 1) (h1 : 1 ≤ T.length) (hd : p ∣ T.length) (hb : ∀ m : Nat, (m + 1) * p ≤ T.length → ∃ s, m * p ≤ s ∧ s < (m + 1) * p ∧ rd T s = t) : ∃ X, Turn T t g X := by
  obtain ⟨q, hq⟩ := hd
  have hq1 : 1 ≤ q := by
    rcases Nat.eq_zero_or_pos q with h | h
    · subst h; rw [Nat.mul_zero] at hq; omega
    · exact h
  -- the last part
  have hlast : (q - 1 + 1) * p = T.length := by rw [hq, Nat.sub_add_cancel hq1, Nat.mul_comm]
  obtain ⟨s, s1, s2, s3⟩ := hb (q - 1) (by omega)
  have hsp : s + p ≥ T.length := by
    have : (q - 1 + 1) * p = (q - 1) * p + p := by rw [Nat.add_mul, Nat.one_mul]
    omega
  have zl : zrec T t 0 T.length ≤ p - 1 := by
    have := zrec_after (z0 := 0) s3 T.length (by omega); omega
  have zb : ∀ j : Nat, j ≤ T.length → zrec T t (zrec T t 0 T.length) j ≤ 2 * p - 2 := by
    intro j hj
    by_cases c : j < p
    · have := zrec_grow (T := T) (t := t) (z0 := zrec T t 0 T.length) j; omega
    · -- the part ahead of j's own
      have e := Nat.div_add_mod j p
      have m1 := Nat.mod_lt j (show 0 < p by omega)
      have hm : 1 ≤ j / p := Nat.div_pos (by omega) (by omega)
      have e2 : (j / p - 1 + 1) * p = p * (j / p) := by rw [Nat.sub_add_cancel hm, Nat.mul_comm]
      obtain ⟨r, r1, r2, r3⟩ := hb (j / p - 1) (by omega)
      have e3 : (j / p - 1 + 1) * p = (j / p - 1) * p + p := by rw [Nat.add_mul, Nat.one_mul]
      have := zrec_after (z0 := zrec T t 0 T.length) r3 j (by omega)
      omega
  refine ⟨fun j => g - (zrec T t (zrec T t 0 T.length) j : Nat), fun j hj => ?_, fun j hj => ?_, ?_⟩
  · simp only [zrec]
    by_cases c : rd T j = t
    · rw [if_pos c, if_pos c]; simp
    · rw [if_neg c, if_neg c]; push_cast; omega
  · have := zb j hj
    omega
  · show g - (zrec T t (zrec T t 0 T.length) T.length : Nat) = g - (zrec T t 0 T.length : Nat)
    rw [zrec_indep (z0 := zrec T t 0 T.length) (z1 := 0) s3 T.length (by omega)]

/-! ### Turns of jobs -/
def turnsJ (L P D : List Int) : List Int × Int := if codeJ L P D = 0 then (if 120 < wholeN P then ([], 3) else (if (slotsJ L P D).2 < 0 then ((slotsJ L P D).1, 0) else ([], 5))) else ([], codeJ L P D)

theorem lateJ_pos (L P D : List Int) : 0 ≤ lateJ L P D ↔ ¬ (slotsJ L P D).2 < 0 := by
  unfold lateJ
  by_cases h : 0 ≤ (slotsJ L P D).2
  · rw [if_pos h]; omega
  · rw [if_neg h]; omega

theorem turnsJ_ok {k : Nat} (hk : 2097152 ≤ k) (L P D : List Int) : impl_TurnsOfJobs.f k L P D = some (turnsJ L P D) ∧ spec_l04Turns.f k L P D = some (turnsJ L P D) := by
  unfold impl_TurnsOfJobs.f spec_l04Turns.f turnsJ
  rw [jobsCode_f hk, l04Code_f hk, Option.bind_some, Option.bind_some]
  by_cases h : codeJ L P D = 0
  · obtain ⟨J, hw⟩ := codeJ_zero h
    rw [if_pos h, if_pos h, if_pos h, whole_f hk J, l04Whole_f' hk J hw, Option.bind_some, Option.bind_some]
    by_cases c : 120 < wholeN P
    · rw [if_pos c, if_pos (show (120 : Int) < (wholeN P : Int) by omega), if_pos (show (120 : Int) < (wholeN P : Int) by omega)]; exact ⟨rfl, rfl⟩
    · rw [if_neg c, if_neg (show ¬ (120 : Int) < (wholeN P : Int) by omega), if_neg (show ¬ (120 : Int) < (wholeN P : Int) by omega), implSlots_f hk J hw, specSlots_f hk J hw, Option.bind_some, Option.bind_some]
      have hp := lateJ_pos L P D
      by_cases c2 : (slotsJ L P D).2 < 0
      · rw [if_neg (show ¬ 0 ≤ lateJ L P D by omega), if_pos c2]; exact ⟨rfl, rfl⟩
      · rw [if_pos (show 0 ≤ lateJ L P D by omega), if_neg c2]; exact ⟨rfl, rfl⟩
  · rw [if_neg h, if_neg h, if_neg h]; exact ⟨rfl, rfl⟩

structure TurnsOk (L P D T : List Int) : Prop where
  J : JobsP L P D
  len : T.length = wholeN P
  n1 : 1 ≤ T.length
  n2 : T.length ≤ 120
  eq : T = (slotsJ L P D).1
  good : (slotsJ L P D).2 < 0

theorem turnsJ_zero {L P D : List Int} (h : (turnsJ L P D).2 = 0) : TurnsOk L P D (turnsJ L P D).1 := by
  unfold turnsJ at h ⊢
  by_cases c : codeJ L P D = 0
  · obtain ⟨J, hw⟩ := codeJ_zero c
    rw [if_pos c] at h ⊢
    by_cases c2 : 120 < wholeN P
    · rw [if_pos c2] at h; cases h
    · rw [if_neg c2] at h ⊢
      by_cases c3 : (slotsJ L P D).2 < 0
      · rw [if_pos c3]
        have hl := (slotsJ_length L P D).2 c3
        have := J.whole.1
        exact ⟨J, hl, by show 1 ≤ (slotsJ L P D).1.length; omega, by show (slotsJ L P D).1.length ≤ 120; omega, rfl, c3⟩
      · rw [if_neg c3] at h; cases h
  · rw [if_neg c] at h; exact absurd h c

theorem turnsJ_len (L P D : List Int) : (turnsJ L P D).1.length ≤ 120 := by
  by_cases h : (turnsJ L P D).2 = 0
  · exact (turnsJ_zero h).n2
  · unfold turnsJ at h ⊢
    by_cases c : codeJ L P D = 0
    · rw [if_pos c] at h ⊢
      by_cases c2 : 120 < wholeN P
      · rw [if_pos c2]; simp
      · rw [if_neg c2] at h ⊢
        by_cases c3 : (slotsJ L P D).2 < 0
        · rw [if_pos c3] at h; exact absurd rfl h
        · rw [if_neg c3]; simp
    · rw [if_neg c]; simp

/-- Each task comes. -/
theorem turns_has {L P D T : List Int} (Tk : TurnsOk L P D T) {j : Nat} (hj : j < L.length) : 1 ≤ cntO T j := by
  have h := (jobs_iff Tk.J).2 Tk.good j hj
  rw [← Tk.eq] at h
  obtain ⟨hL, hPp, _⟩ := Tk.J.each j hj
  have h1 := Tk.J.whole.1
  have h2 := Int.mul_le_mul (show (1 : Int) ≤ rd L j by omega) (show (1 : Int) ≤ (wholeN P : Int) by omega) (by omega) (by omega)
  by_cases c : 1 ≤ cntO T j
  · exact c
  · have : cntO T j = 0 := by unfold cntO at c ⊢; omega
    rw [this] at h; omega

theorem places_cnt (T : List Int) (j : Nat) : ∀ i : Nat, i ≤ T.length → ((places T j i).length : Int) = cntO (T.take i) j
  | 0, _ => by simp [places, cntO]
  | i + 1, h => by
    have ih := places_cnt T j i (by omega)
    rw [List.take_succ_eq_append_getElem (by omega), ← rd_lt (by omega), cntO_app, ← ih]
    show ((if rd T i = (j : Int) then places T j i ++ [(i : Int)] else places T j i).length : Int) = _
    by_cases c : rd T i = (j : Int)
    · rw [if_pos c, if_pos c]; simp
    · rw [if_neg c, if_neg c]; simp

theorem wait_pos {T : List Int} {j : Nat} (h : 1 ≤ cntO T j) : 1 ≤ (wait T j).length ∧ 1 ≤ grt (wait T j) := by
  have h1 := places_cnt T j T.length (Nat.le_refl _)
  rw [List.take_length] at h1
  have h2 : (wait T j).length = (places T j T.length).length := wts_len _ _
  have h3 : 1 ≤ (wait T j).length := by omega
  refine ⟨h3, wait_last ?_⟩
  intro e
  rw [e] at h3; simp at h3

/-! ### Gaps of turns -/
def gapsF (T : List Int) (n : Nat) : List Int := (List.range n).map fun i : Nat => grt (wait T i)
theorem gapsF_len (T : List Int) (n : Nat) : (gapsF T n).length = n := by simp [gapsF]
theorem gapsF_succ (T : List Int) (n : Nat) : gapsF T (n + 1) = gapsF T n ++ [grt (wait T n)] := by simp [gapsF, List.range_succ]
theorem gapsF_rd (T : List Int) {n i : Nat} (h : i < n) : rd (gapsF T n) i = grt (wait T i) := by
  rw [rd_lt (by rw [gapsF_len]; exact h)]
  simp [gapsF]

def gapsR (L P D : List Int) : List Int × Int := if (turnsJ L P D).2 = 0 then (if isT (gapsF (turnsJ L P D).1 L.length) = true then (gapsF (turnsJ L P D).1 L.length, 0) else ([], 4)) else ([], (turnsJ L P D).2)

theorem implGaps_loop {k : Nat} (hk : 2097152 ≤ k) {T : List Int} {n : Nat} (hT : T.length ≤ 120) (hn : n ≤ 8) : ∀ (d i f : Nat), n - i = d → i ≤ n → d < f →
    impl_GapsOfTurns.l0 k f T (gapsF T i) n i = some (if isT (gapsF T n) = true then (gapsF T n, 0) else ([], 4)) := by
  intro d
  induction d with
  | zero =>
    intro i f hd hi hf
    cases f with
    | zero => omega
    | succ f =>
      obtain rfl : i = n := by omega
      simp only [impl_GapsOfTurns.l0, impl_GapsOfTurns.s0]
      rw [if_neg (by omega), isTasks_f hk (by rw [gapsF_len]; omega), Option.bind_some]
      by_cases c : isT (gapsF T i) = true
      · rw [if_pos c, if_pos c]
      · rw [if_neg c, if_neg c]
  | succ d ih =>
    intro i f hd hi hf
    cases f with
    | zero => omega
    | succ f =>
      have hwl := wait_len (cs := T) (i : Int)
      simp only [impl_GapsOfTurns.l0, impl_GapsOfTurns.s0]
      rw [if_pos (by omega), impl_waits_f hk (by omega), Option.bind_some, impl_greatest_f hk (by omega), Option.bind_some, if_pos (by rw [gapsF_len]; omega), ← gapsF_succ, w64n (by omega)]
      exact ih (i + 1) f (by omega) (by omega) (by omega)

theorem specGaps_loop {k : Nat} (hk : 2097152 ≤ k) {L P D T : List Int} (hT : T.length ≤ 120) (h1 : 1 ≤ L.length) (hn : L.length ≤ 8) (hpos : ∀ j : Nat, j < L.length → 1 ≤ grt (wait T j)) : ∀ (d i f : Nat), L.length - i = d → i ≤ L.length → (∀ j : Nat, j < i → grt (wait T j) ≤ 40) → d < f →
    spec_GapsOfTurns.l0 k f L P D T (gapsF T i) i = some (if isT (gapsF T L.length) = true then (gapsF T L.length, 0) else ([], 4)) := by
  intro d
  induction d with
  | zero =>
    intro i f hd hi hle hf
    cases f with
    | zero => omega
    | succ f =>
      obtain rfl : i = L.length := by omega
      simp only [spec_GapsOfTurns.l0, spec_GapsOfTurns.s0]
      rw [if_neg (by omega), if_pos]
      rw [isT_iff, gapsF_len]
      refine ⟨by omega, fun g hg => ?_⟩
      obtain ⟨j, hj, rfl⟩ := List.mem_map.1 hg
      have hj := List.mem_range.1 hj
      exact ⟨hpos j hj, hle j hj⟩
  | succ d ih =>
    intro i f hd hi hle hf
    cases f with
    | zero => omega
    | succ f =>
      simp only [spec_GapsOfTurns.l0, spec_GapsOfTurns.s0]
      rw [if_pos (by omega), spec_greatest_f hk (by omega), Option.bind_some]
      by_cases c : 40 < grt (wait T i)
      · rw [if_pos c, if_neg]
        rw [isT_iff]
        rintro ⟨_, h2⟩
        have := h2 (grt (wait T i)) (List.mem_map.2 ⟨i, List.mem_range.2 (by omega), rfl⟩)
        omega
      · rw [if_neg c, if_pos (by rw [gapsF_len]; omega), ← gapsF_succ, w64n (by omega)]
        refine ih (i + 1) f (by omega) (by omega) (fun j hj => ?_) (by omega)
        by_cases e : j = i
        · subst e; omega
        · exact hle j (by omega)

theorem gaps_ok {k : Nat} (hk : 2097152 ≤ k) (L P D : List Int) : impl_GapsOfTurns.f k L P D = some (gapsR L P D) ∧ spec_GapsOfTurns.f k L P D = some (gapsR L P D) := by
  unfold impl_GapsOfTurns.f impl_GapsOfTurns.g spec_GapsOfTurns.f spec_GapsOfTurns.g gapsR
  rw [(turnsJ_ok hk L P D).1, (turnsJ_ok hk L P D).2, Option.bind_some, Option.bind_some]
  by_cases h : (turnsJ L P D).2 = 0
  · have Tk := turnsJ_zero h
    have J := Tk.J
    have := J.n1; have := J.n8
    rw [if_pos h, if_pos h, if_pos h, jobsMany_f, Option.bind_some]
    exact ⟨implGaps_loop hk Tk.n2 J.n8 L.length 0 k rfl (by omega) (by omega), specGaps_loop hk Tk.n2 J.n1 J.n8 (fun j hj => (wait_pos (turns_has Tk hj)).2) L.length 0 k rfl (by omega) (fun j hj => by omega) (by omega)⟩
  · rw [if_neg h, if_neg h, if_neg h]; exact ⟨rfl, rfl⟩

theorem gapsR_len (L P D : List Int) : (gapsR L P D).1.length ≤ 8 := by
  unfold gapsR
  by_cases h : (turnsJ L P D).2 = 0
  · rw [if_pos h]
    split
    · show (gapsF _ _).length ≤ 8
      rw [gapsF_len]; exact (turnsJ_zero h).J.n8
    · simp
  · rw [if_neg h]; simp

/-- Turns that are served, in general. -/
theorem doServe_b {k : Nat} {G cs : List Int} (hk : 2097152 ≤ k) (h : isT G = true) (h1 : 1 ≤ cs.length) (hn : cs.length ≤ 120) (hc : ∀ c ∈ cs, -1 ≤ c ∧ c ≤ (G.length : Int) - 1) (hs : servB G cs 0 G.length = true) : impl_DoServe.f k G cs = some (true, 0) := by
  have hl := (isT_iff.1 h).1
  unfold impl_DoServe.f impl_turnsCode.f
  rw [many_f, Option.bind_some]
  unfold impl_areTurns.f
  rw [length_f, Option.bind_some, within_f, Option.bind_some, if_pos (decide_eq_true (by omega)), areTurns_all hk (by omega) (by omega) (by omega), Option.bind_some, Option.bind_some, tasksCode_f hk (by omega)]
  have : cs.all (turnB (G.length : Int)) = true := List.all_eq_true.2 fun c hx => decide_eq_true (hc c hx)
  rw [this, if_pos h, if_pos rfl, Option.bind_some, Option.bind_some, if_pos rfl, impl_serves_f hk (by omega) (by omega), Option.bind_some, hs]

theorem gaps_serve {k : Nat} (hk : 2097152 ≤ k) {L P D : List Int} (h : (gapsR L P D).2 = 0) : (turnsJ L P D).2 = 0 ∧ impl_DoServe.f k (gapsR L P D).1 (turnsJ L P D).1 = some (true, 0) := by
  unfold gapsR at h ⊢
  by_cases c : (turnsJ L P D).2 = 0
  · have Tk := turnsJ_zero c
    rw [if_pos c] at h ⊢
    by_cases c2 : isT (gapsF (turnsJ L P D).1 L.length) = true
    · rw [if_pos c2]
      refine ⟨c, doServe_b hk c2 Tk.n1 Tk.n2 ?_ ?_⟩
      · rw [gapsF_len, Tk.eq]; exact slotsJ_range Tk.J
      · rw [servB_iff]
        intro t h1 h2
        rw [gapsF_len, Nat.zero_add] at h2
        show okT _ _ _ = true
        rw [gapsF_rd _ h2]
        unfold okT
        exact decide_eq_true ⟨(wait_pos (turns_has Tk h2)).1, Int.le_refl _⟩
    · rw [if_neg c2] at h; cases h
  · rw [if_neg c] at h; exact absurd h c

/-! ### Jobs of tasks -/
def half (g : Int) : Int := (g + 1) / 2
def halves (G : List Int) : List Int := G.map half
def ones (G : List Int) : List Int := G.map fun _ => 1
def jobsT (G : List Int) : List Int × List Int × List Int × Int := if isT G = true then (ones G, halves G, halves G, 0) else ([], [], [], 1)

theorem map_take {f : Int → Int} {G : List Int} {i : Nat} (h : i < G.length) : (G.take (i + 1)).map f = (G.take i).map f ++ [f (rd G i)] := by
  rw [List.take_succ_eq_append_getElem h, ← rd_lt h, List.map_append]; rfl

theorem implJobsT_loop {k : Nat} {G : List Int} (hl : G.length ≤ 8) (hg : ∀ g ∈ G, 1 ≤ g ∧ g ≤ 40) : ∀ (d i n : Nat), G.length - i = d → i ≤ G.length → d < n →
    impl_JobsOfTasks.l0 k n ((G.take i).map fun _ => 1) ((G.take i).map half) ((G.take i).map half) G G.length i = some (ones G, halves G, halves G, 0) := by
  intro d
  induction d with
  | zero =>
    intro i n hd hi hn
    cases n with
    | zero => omega
    | succ n =>
      simp only [impl_JobsOfTasks.l0, impl_JobsOfTasks.s0]
      rw [if_neg (by omega), List.take_of_length_le (by omega)]
      rfl
  | succ d ih =>
    intro i n hd hi hn
    cases n with
    | zero => omega
    | succ n =>
      have hgi := hg _ (rd_mem (l := G) (i := i) (by omega))
      have e : wrap64 (Int.tdiv (wrap64 (rd G i + 1)) 2) = half (rd G i) := by
        rw [w64 (x := rd G i + 1) (by omega) (by omega), Int.tdiv_eq_ediv_of_nonneg (by omega), w64 (by omega) (by omega)]; rfl
      have next := ih (i + 1) n (by omega) (by omega) (by omega)
      rw [map_take (by omega), map_take (by omega)] at next
      simp only [impl_JobsOfTasks.l0, impl_JobsOfTasks.s0]
      rw [if_pos (by omega), if_pos (by omega), if_pos (by omega), if_pos (by simp; omega), if_pos (by simp; omega), if_pos (by simp; omega), e, w64n (by omega)]
      exact next

theorem specJobsT_loop {k : Nat} {G : List Int} (hl : G.length ≤ 8) (hg : ∀ g ∈ G, 1 ≤ g ∧ g ≤ 40) : ∀ (d i n : Nat), G.length - i = d → i ≤ G.length → d < n →
    spec_JobsOfTasks.l0 k n G ((G.take i).map fun _ => 1) ((G.take i).map half) ((G.take i).map half) i = some (ones G, halves G, halves G, 0) := by
  intro d
  induction d with
  | zero =>
    intro i n hd hi hn
    cases n with
    | zero => omega
    | succ n =>
      simp only [spec_JobsOfTasks.l0, spec_JobsOfTasks.s0]
      rw [if_neg (by omega), List.take_of_length_le (by omega)]
      rfl
  | succ d ih =>
    intro i n hd hi hn
    cases n with
    | zero => omega
    | succ n =>
      have hgi := hg _ (rd_mem (l := G) (i := i) (by omega))
      have e : wrap64 (Int.tdiv (wrap64 (rd G i + 1)) 2) = half (rd G i) := by
        rw [w64 (x := rd G i + 1) (by omega) (by omega), Int.tdiv_eq_ediv_of_nonneg (by omega), w64 (by omega) (by omega)]; rfl
      have next := ih (i + 1) n (by omega) (by omega) (by omega)
      rw [map_take (by omega), map_take (by omega)] at next
      simp only [spec_JobsOfTasks.l0, spec_JobsOfTasks.s0]
      rw [if_pos (by omega), if_pos (by omega), if_pos (by omega), if_pos (by simp; omega), if_pos (by simp; omega), if_pos (by simp; omega), e, w64n (by omega)]
      exact next

theorem jobsT_ok {k : Nat} (hk : 2097152 ≤ k) {G : List Int} (hl : G.length ≤ 1048576) : impl_JobsOfTasks.f k G = some (jobsT G) ∧ spec_JobsOfTasks.f k G = some (jobsT G) := by
  unfold impl_JobsOfTasks.f impl_JobsOfTasks.g spec_JobsOfTasks.f spec_JobsOfTasks.g jobsT
  rw [isTasks_f hk hl, l01Is_f hk hl, Option.bind_some, Option.bind_some]
  by_cases h : isT G = true
  · obtain ⟨h1, h2⟩ := isT_iff.1 h
    rw [if_pos h, if_pos h, if_pos h]
    exact ⟨implJobsT_loop h1.2 h2 G.length 0 k rfl (by omega) (by omega), specJobsT_loop h1.2 h2 G.length 0 k rfl (by omega) (by omega)⟩
  · rw [if_neg h, if_neg h, if_neg h]; exact ⟨rfl, rfl⟩

theorem rd_map {f : Int → Int} {G : List Int} {i : Nat} (h : i < G.length) : rd (G.map f) i = f (rd G i) := by
  rw [rd_lt (by simpa using h), rd_lt h]; simp

/-- The turns of the jobs of tasks serve them. -/
theorem own_serve {k : Nat} (hk : 2097152 ≤ k) {G : List Int} (h : isT G = true) (hz : (turnsJ (ones G) (halves G) (halves G)).2 = 0) : impl_DoServe.f k G (turnsJ (ones G) (halves G) (halves G)).1 = some (true, 0) := by
  obtain ⟨h1, h2⟩ := isT_iff.1 h
  have Tk := turnsJ_zero hz
  have hlen : (ones G).length = G.length := by simp [ones]
  refine doServe_f hk h Tk.n1 Tk.n2 ?_ ?_
  · rw [Tk.eq]
    have := slotsJ_range Tk.J
    rwa [hlen] at this
  · intro t ht
    have hg := h2 _ (rd_mem ht)
    have hpv : rd (halves G) t = half (rd G t) := rd_map ht
    have hlv : rd (ones G) t = 1 := rd_map (f := fun _ => 1) ht
    have hhalf : 1 ≤ half (rd G t) ∧ 2 * half (rd G t) ≤ rd G t + 1 := by unfold half; omega
    obtain ⟨p, hp⟩ := Int.eq_ofNat_of_zero_le (show 0 ≤ half (rd G t) by omega)
    refine ⟨by omega, turn_blocks (p := p) (by omega) (by omega) Tk.n1 ?_ ?_⟩
    · rw [Tk.len]
      have := Tk.J.whole.2.2 t (by omega)
      rwa [hpv, hp, Int.toNat_natCast] at this
    · intro m hm
      have hb : cntO ((turnsJ (ones G) (halves G) (halves G)).1.take ((m + 1) * p)) t = (m + 1 : Nat) := by
        have := slotsJ_pre Tk.J Tk.good ((m + 1) * p) (by have := Nat.mul_pos (show 0 < m + 1 by omega) (show 0 < p by omega); omega) (by rw [← Tk.len]; exact hm) t (by omega) (by rw [hpv, hp]; exact ⟨((m + 1 : Nat) : Int), by push_cast; rw [Int.mul_comm]⟩)
        rw [← Tk.eq, hpv, hlv, hp, Int.one_mul, Int.natCast_mul] at this
        exact Int.eq_of_mul_eq_mul_right (by omega) this
      have ha : cntO ((turnsJ (ones G) (halves G) (halves G)).1.take (m * p)) t = (m : Int) := by
        rcases Nat.eq_zero_or_pos m with c | c
        · subst c; simp [cntO]
        · have hmp : m * p ≤ (m + 1) * p := Nat.mul_le_mul_right p (by omega)
          have := slotsJ_pre Tk.J Tk.good (m * p) (by have := Nat.mul_pos c (show 0 < p by omega); omega) (by rw [← Tk.len]; omega) t (by omega) (by rw [hpv, hp]; exact ⟨(m : Int), by push_cast; rw [Int.mul_comm]⟩)
          rw [← Tk.eq, hpv, hlv, hp, Int.one_mul, Int.natCast_mul] at this
          exact Int.eq_of_mul_eq_mul_right (by omega) this
      have e : (m + 1) * p = m * p + p := by rw [Nat.add_mul, Nat.one_mul]
      obtain ⟨s, s1, s2, s3, s4⟩ := count_more (T := (turnsJ (ones G) (halves G) (halves G)).1) (j := t) p (m * p) (by rw [ha, ← e, hb]; omega)
      exact ⟨s, s1, by omega, s4⟩

end Go.Proofs.Ytmgdobiloapelaa.Vf
