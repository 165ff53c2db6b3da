/- Answers of jobs in a fixed order: the least fixed number is where the growing numbers of the program stop. -/
import Derived.Test.YtmgdobiloapelaaCx3
import Derived.Test.YtmgdobiloapelaaCx5
import Derived.Test.YtmgdobiloapelaaCx6
import Derived.Test.YtmgdobiloapelaaCuOrder
import Derived.Test.YtmgdobiloapelaaCuEarliest
set_option linter.unusedVariables false
set_option linter.unusedSimpArgs false
namespace Go.Proofs.Ytmgdobiloapelaa.Cb
open Go.RowKit Go.Proofs.YtmgdobiloapelaaW.PrintWords Go.Proofs.YtmgdobiloapelaaW.PrintLast Go.Proofs.Ytmgdobiloapelaa.C

def needS (L P : List Int) (r : Int) : List Int → Int → Int
  | [], a => a
  | j :: s, a => needS L P r s (a + Int.tdiv (r + rd P j - 1) (rd P j) * rd L j)
/-- Tasks that there are. -/
def Of (n : Nat) (s : List Int) : Prop := ∀ x ∈ s, 0 ≤ x ∧ x < n
theorem rd_toNat (l : List Int) {j : Int} (h : 0 ≤ j) : rd l j = rd l (j.toNat : Int) := by rw [Int.toNat_of_nonneg h]
theorem JobsP.at {L P D : List Int} (J : JobsP L P D) {j : Int} (h0 : 0 ≤ j) (h1 : j < L.length) : (1 ≤ rd L j ∧ rd L j ≤ 20) ∧ (1 ≤ rd P j ∧ rd P j ≤ 60) ∧ 1 ≤ rd D j ∧ rd D j ≤ rd P j := by
  rw [rd_toNat L h0, rd_toNat P h0, rd_toNat D h0]
  exact J.each j.toNat (by omega)
theorem ceil_le {r p : Int} (hr : 0 ≤ r) (hp : 1 ≤ p) : 0 ≤ Int.tdiv (r + p - 1) p ∧ Int.tdiv (r + p - 1) p ≤ r := by
  rw [Int.tdiv_eq_ediv_of_nonneg (by omega)]
  constructor
  · exact Int.ediv_nonneg (by omega) (by omega)
  · have h1 := Int.ediv_mul_le (r + p - 1) (show p ≠ 0 by omega)
    have h0 : 0 ≤ (r + p - 1) / p := Int.ediv_nonneg (by omega) (by omega)
    rcases Int.lt_or_le r ((r + p - 1) / p) with h | h
    · have h2 : (r + 1) * p ≤ (r + p - 1) / p * p := Int.mul_le_mul_of_nonneg_right (by omega) (by omega)
      have h3 : (r + 1) * p = r * p + p := by rw [Int.add_mul, Int.one_mul]
      have h4 : r * 1 ≤ r * p := Int.mul_le_mul_of_nonneg_left hp hr
      omega
    · exact h
theorem ceil_mono {r r' p : Int} (hr : 0 ≤ r) (h : r ≤ r') (hp : 1 ≤ p) : Int.tdiv (r + p - 1) p ≤ Int.tdiv (r' + p - 1) p := by
  rw [Int.tdiv_eq_ediv_of_nonneg (by omega), Int.tdiv_eq_ediv_of_nonneg (by omega)]
  exact Int.ediv_le_ediv (by omega) (by omega)
theorem needS_ge {L P D : List Int} (J : JobsP L P D) {r : Int} (hr : 0 ≤ r) : ∀ (s : List Int) (a : Int), Of L.length s → a ≤ needS L P r s a ∧ needS L P r s a ≤ a + 20 * r * s.length := by
  intro s
  induction s with
  | nil => intro a _; simp [needS]
  | cons j s ih =>
    intro a hs
    have hj := hs j (by simp)
    have hJ := J.at hj.1 hj.2
    have hc := ceil_le (r := r) (p := rd P j) hr hJ.2.1.1
    obtain ⟨h1, h2⟩ := ih (a + Int.tdiv (r + rd P j - 1) (rd P j) * rd L j) (fun x hx => hs x (by simp [hx]))
    rw [needS]
    have h3 : 0 ≤ Int.tdiv (r + rd P j - 1) (rd P j) * rd L j := Int.mul_nonneg hc.1 (by omega)
    have h4 : Int.tdiv (r + rd P j - 1) (rd P j) * rd L j ≤ r * 20 := Int.mul_le_mul hc.2 hJ.1.2 (by omega) hr
    have e : 20 * r * ((j :: s).length : Int) = 20 * r * (s.length : Int) + 20 * r := by
      rw [List.length_cons, Int.natCast_add, Int.mul_add]; simp
    rw [e]
    generalize 20 * r * (s.length : Int) = Z at *
    generalize Int.tdiv (r + rd P j - 1) (rd P j) * rd L j = Y at *
    omega
theorem needS_mono {L P D : List Int} (J : JobsP L P D) {r r' : Int} (hr : 0 ≤ r) (h : r ≤ r') : ∀ (s : List Int) (a a' : Int), Of L.length s → a ≤ a' → needS L P r s a ≤ needS L P r' s a' := by
  intro s
  induction s with
  | nil => intro a a' _ h; exact h
  | cons j s ih =>
    intro a a' hs ha
    have hj := hs j (by simp)
    have hJ := J.at hj.1 hj.2
    rw [needS, needS]
    refine ih _ _ (fun x hx => hs x (by simp [hx])) ?_
    have := Int.mul_le_mul_of_nonneg_right (c := rd L j) (ceil_mono (p := rd P j) hr h hJ.2.1.1) (by omega)
    omega
/-- The least number from r on, d of them, that is what is needed up to it. -/
def fixF (f : Int → Int) : Nat → Int → Int
  | 0, _ => -1
  | d + 1, r => if f r = r then r else fixF f d (r + 1)
theorem fixF_skip (f : Int → Int) : ∀ (e d : Nat) (r : Int), (∀ x, r ≤ x → x < r + e → f x ≠ x) → fixF f (e + d) r = fixF f d (r + e) := by
  intro e
  induction e with
  | zero => intro d r _; simp
  | succ e ih =>
    intro d r h
    rw [show e + 1 + d = (e + d) + 1 by omega, fixF, if_neg (h r (by omega) (by omega)), ih d (r + 1) (fun x h1 h2 => h x (by omega) (by omega))]
    congr 1
    omega
theorem fixF_none (f : Int → Int) (d : Nat) (r : Int) (h : ∀ x, r ≤ x → x < r + d → f x ≠ x) : fixF f d r = -1 := by
  have := fixF_skip f d 0 r h
  rw [Nat.add_zero] at this
  rw [this]; rfl
theorem fixF_range (f : Int → Int) : ∀ (d : Nat) (r : Int), fixF f d r = -1 ∨ r ≤ fixF f d r ∧ fixF f d r < r + d ∧ f (fixF f d r) = fixF f d r := by
  intro d
  induction d with
  | zero => intro r; exact .inl rfl
  | succ d ih =>
    intro r
    rw [fixF]
    by_cases c : f r = r
    · rw [if_pos c]; exact .inr ⟨by omega, by omega, c⟩
    · rw [if_neg c]
      rcases ih (r + 1) with h | ⟨h1, h2, h3⟩
      · exact .inl h
      · exact .inr ⟨by omega, by omega, h3⟩
def needOf (L P : List Int) (s : List Int) (i r : Int) : Int := needS L P r s (rd L i)
/-- The answer of a task behind others. -/
def ansOf (L P D : List Int) (s : List Int) (i : Int) : Int := fixF (needOf L P s i) (rd D i).toNat 1

theorem specNeed_ev {L P D : List Int} (J : JobsP L P D) (o out : List Int) (ho : o.length ≤ 1000) (at_ : Nat) (hat : at_ < o.length) (i r : Int) (hr : 0 ≤ r) (hr2 : r ≤ 60) (res : List Int × Int) : ∀ (s : List Int) (j : Nat) (a : Int), (o.take at_).drop j = s → Of L.length s → 0 ≤ a → a ≤ 1000 + 1200 * j →
    Ev (fun k => if needS L P r s a = r then (if 0 ≤ i then (if i < (out.length : Int) then spec_AnswersOf.l0 k o (out.set i.toNat r) (wrap64 ((at_ : Int) + 1)) L P D else none) else none) else spec_AnswersOf.l1 k o out at_ i (wrap64 (r + 1)) L P D) res →
    Ev (fun k => spec_AnswersOf.l2 k o out at_ i r a j L P D) res := by
  have hn := J.n8
  intro s
  induction s with
  | nil =>
    intro j a h hs h0 h1 hk
    have hj := drop_nil h
    rw [List.length_take, Nat.min_eq_left (by omega)] at hj
    refine ev_succ ?_
    simp only [spec_AnswersOf.l2]
    refine ev_neg (by omega) ?_
    exact hk
  | cons x s ih =>
    intro j a h hs h0 h1 hk
    obtain ⟨hj, hx, hs2⟩ := drop_split h
    have hj' : j < at_ := by rw [List.length_take, Nat.min_eq_left (by omega)] at hj; exact hj
    have hx2 : rd o j = x := by
      rw [← hx, rd_nat, rd_nat, List.getD_eq_getElem?_getD, List.getD_eq_getElem?_getD, List.getElem?_take_of_lt hj']
    have hxr := hs x (by simp)
    have hJ := J.at hxr.1 hxr.2
    have hP := J.hP
    have hc := ceil_le (r := r) (p := rd P x) hr hJ.2.1.1
    have h3 : 0 ≤ Int.tdiv (r + rd P x - 1) (rd P x) * rd L x := Int.mul_nonneg hc.1 (by omega)
    have h4 : Int.tdiv (r + rd P x - 1) (rd P x) * rd L x ≤ 60 * 20 := Int.mul_le_mul (by omega) hJ.1.2 (by omega) (by omega)
    refine ev_succ ?_
    simp only [spec_AnswersOf.l2]
    rw [hx2, show wrap64 ((j : Int) + 1) = ((j + 1 : Nat) : Int) from w64n (by omega), w64 (x := r + rd P x) (by omega) (by omega), w64 (x := r + rd P x - 1) (by omega) (by omega), w64 (x := Int.tdiv (r + rd P x - 1) (rd P x)) (by omega) (by omega), w64 (x := Int.tdiv (r + rd P x - 1) (rd P x) * rd L x) (by omega) (by omega), w64 (x := a + Int.tdiv (r + rd P x - 1) (rd P x) * rd L x) (by omega) (by omega)]
    refine ev_pos (by omega) (ev_pos (by omega) (ev_pos (by omega) (ev_pos (by omega) (ev_pos (by omega) (ev_neg (by omega) (ev_pos (by omega) ?_))))))
    refine ih (j + 1) _ hs2 (fun y hy => hs y (by simp [hy])) (by omega) ?_ ?_
    · generalize Int.tdiv (r + rd P x - 1) (rd P x) * rd L x = Y at *
      omega
    · rw [needS] at hk; exact hk
theorem specFix_ev {L P D : List Int} (J : JobsP L P D) (o : List Int) (ho : o.length ≤ 1000) (hof : Of L.length o) (at_ : Nat) (hat : at_ < o.length) (i : Int) (hi0 : 0 ≤ i) (hi1 : i < L.length) (res : List Int × Int) : ∀ (d : Nat) (r : Int) (out : List Int), out.length = L.length → 1 ≤ r → r + d = rd D i + 1 → rd out i = -1 →
    Ev (fun k => spec_AnswersOf.l0 k o (out.set i.toNat (fixF (needOf L P (o.take at_) i) d r)) ((at_ + 1 : Nat) : Int) L P D) res →
    Ev (fun k => spec_AnswersOf.l1 k o out at_ i r L P D) res := by
  have hn := J.n8
  have hJ := J.at hi0 hi1
  have hD := J.hD
  have hOf : Of L.length (o.take at_) := fun x hx => hof x (List.mem_of_mem_take hx)
  intro d
  induction d with
  | zero =>
    intro r out hout hr hd hm hk
    refine ev_succ ?_
    simp only [spec_AnswersOf.l1]
    refine ev_pos (by omega) (ev_pos (by omega) (ev_neg (by omega) ?_))
    rw [show wrap64 ((at_ : Int) + 1) = ((at_ + 1 : Nat) : Int) from w64n (by omega)]
    have e : out.set i.toNat (-1) = out := by
      have : rd out i = out[i.toNat]'(by omega) := by rw [rd_toNat out hi0, rd_lt (by omega)]
      rw [← hm, this]
      exact List.set_getElem_self _
    rw [fixF, e] at hk
    exact hk
  | succ d ih =>
    intro r out hout hr hd hm hk
    refine ev_succ ?_
    simp only [spec_AnswersOf.l1]
    refine ev_pos (by omega) (ev_pos (by omega) (ev_pos (by omega) (ev_pos (by omega) ?_)))
    refine specNeed_ev J o out ho at_ hat i r (by omega) (by omega) res (o.take at_) 0 (rd L i) (by simp) hOf (by omega) (by omega) ?_
    rw [show wrap64 ((at_ : Int) + 1) = ((at_ + 1 : Nat) : Int) from w64n (by omega), w64 (x := r + 1) (by omega) (by omega)]
    rw [fixF] at hk
    by_cases c : needOf L P (o.take at_) i r = r
    · rw [if_pos c] at hk
      exact ev_pos c (ev_pos hi0 (ev_pos (by omega) hk))
    · rw [if_neg c] at hk
      exact ev_neg c (ih (r + 1) out hout (by omega) (by omega) hm hk)
/-- Answers, from one place of the order on. -/
def answersF (L P D o : List Int) : Nat → Nat → List Int → List Int
  | 0, _, out => out
  | d + 1, a, out => answersF L P D o d (a + 1) (out.set (rd o a).toNat (ansOf L P D (o.take a) (rd o a)))
theorem answersF_length (L P D o : List Int) : ∀ (d a : Nat) (out : List Int), (answersF L P D o d a out).length = out.length := by
  intro d
  induction d with
  | zero => intro a out; rfl
  | succ d ih => intro a out; rw [answersF, ih]; simp
theorem specAnswers_ev {L P D : List Int} (J : JobsP L P D) (o : List Int) (ho : o.length ≤ 1000) (hof : Of L.length o) : ∀ (d a : Nat) (out : List Int), a + d = o.length → out.length = L.length →
    Ev (fun k => spec_AnswersOf.l0 k o out a L P D) (answersF L P D o d a out, 0) := by
  have hn := J.n8
  intro d
  induction d with
  | zero =>
    intro a out ha hout
    refine ev_succ ?_
    simp only [spec_AnswersOf.l0]
    exact ev_neg (by omega) (Ev.now _)
  | succ d ih =>
    intro a out ha hout
    have hm : rd o a ∈ o := rd_mem (by omega)
    have hr := hof _ hm
    have hJ := J.at hr.1 hr.2
    refine ev_succ ?_
    simp only [spec_AnswersOf.l0]
    refine ev_pos (by omega) (ev_pos (by omega) (ev_pos (by omega) (ev_pos (by omega) ?_)))
    refine specFix_ev J o ho hof a (by omega) (rd o a) hr.1 hr.2 _ (rd D (rd o a)).toNat 1 _ (by simp [hout]) (by omega) (by omega) ?_ ?_
    · rw [rd_toNat _ hr.1, rd_set _ _ _ _ (by omega), if_pos rfl]
    · rw [List.set_set]
      exact ih (a + 1) _ (by omega) (by simp [hout])

theorem implNeed_ev {L P D : List Int} (J : JobsP L P D) (o q : List Int) (hq : q.length ≤ 1000) (i r : Int) (hi0 : 0 ≤ i) (hi1 : i < L.length) (hr : 0 ≤ r) (hr2 : r ≤ 60) (res : Int) : ∀ (s : List Int) (j : Nat) (a : Int), q.drop j = s → Of L.length s → 0 ≤ a → a ≤ 1000 + 1200 * j →
    Ev (fun k => if needS L P r s a > rd D i then some (-1) else (if needS L P r s a = r then some r else impl_Jobs_answer.l0 k o i (needS L P r s a) L P D)) res →
    Ev (fun k => impl_Jobs_answer.l1 k o i r a q (q.length : Int) j L P D) res := by
  have hn := J.n8
  intro s
  induction s with
  | nil =>
    intro j a h hs h0 h1 hk
    have hj := drop_nil h
    have hD := J.hD
    refine ev_succ ?_
    simp only [impl_Jobs_answer.l1]
    exact ev_neg (by omega) (ev_pos (by omega) (ev_pos (by omega) hk))
  | cons x s ih =>
    intro j a h hs h0 h1 hk
    obtain ⟨hj, hx, hs2⟩ := drop_split h
    have hxr := hs x (by simp)
    have hJ := J.at hxr.1 hxr.2
    have hP := J.hP
    have hc := ceil_le (r := r) (p := rd P x) hr hJ.2.1.1
    have h3 : 0 ≤ Int.tdiv (r + rd P x - 1) (rd P x) * rd L x := Int.mul_nonneg hc.1 (by omega)
    have h4 : Int.tdiv (r + rd P x - 1) (rd P x) * rd L x ≤ 60 * 20 := Int.mul_le_mul (by omega) hJ.1.2 (by omega) (by omega)
    refine ev_succ ?_
    simp only [impl_Jobs_answer.l1]
    rw [hx, show wrap64 ((j : Int) + 1) = ((j + 1 : Nat) : Int) from w64n (by omega), w64 (x := r + rd P x) (by omega) (by omega), w64 (x := r + rd P x - 1) (by omega) (by omega), w64 (x := Int.tdiv (r + rd P x - 1) (rd P x)) (by omega) (by omega), Int.mul_comm (rd L x), w64 (x := Int.tdiv (r + rd P x - 1) (rd P x) * rd L x) (by omega) (by omega), w64 (x := a + Int.tdiv (r + rd P x - 1) (rd P x) * rd L x) (by omega) (by omega)]
    refine ev_pos (by omega) (ev_pos (by omega) (ev_pos (by omega) (ev_pos (by omega) (ev_pos (by omega) (ev_pos (by omega) (ev_neg (by omega) ?_))))))
    refine ih (j + 1) _ hs2 (fun y hy => hs y (by simp [hy])) (by omega) ?_ ?_
    · generalize Int.tdiv (r + rd P x - 1) (rd P x) * rd L x = Y at *
      omega
    · rw [needS] at hk; exact hk
theorem implFix_ev {L P D : List Int} (J : JobsP L P D) (o : List Int) (ho0 : 1 ≤ o.length) (ho : o.length ≤ 1000) (hof : Of L.length o) (i : Int) (hi0 : 0 ≤ i) (hi1 : i < L.length) : ∀ (m : Nat) (r : Int), 1 ≤ r → r ≤ 60 → (60 - r).toNat ≤ m → r ≤ needOf L P (o.take (o.length - 1)) i r →
    Ev (fun k => impl_Jobs_answer.l0 k o i r L P D) (fixF (needOf L P (o.take (o.length - 1)) i) (rd D i + 1 - r).toNat r) := by
  have hn := J.n8
  have hJ := J.at hi0 hi1
  have hOf : Of L.length (o.take (o.length - 1)) := fun x hx => hof x (List.mem_of_mem_take hx)
  intro m
  induction m with
  | zero =>
    intro r hr hr2 hm hge
    refine ev_succ ?_
    simp only [impl_Jobs_answer.l0]
    rw [w64 (x := (o.length : Int) - 1) (by omega) (by omega), show ((o.length : Int) - 1).toNat = o.length - 1 by omega]
    refine ev_pos hi0 (ev_pos hi1 (ev_pos (by omega) (ev_pos (by omega) ?_)))
    refine implNeed_ev J o (o.take (o.length - 1)) (by simp; omega) i r hi0 hi1 (by omega) hr2 _ (o.take (o.length - 1)) 0 (rd L i) (by simp) hOf (by omega) (by omega) ?_
    by_cases c : needOf L P (o.take (o.length - 1)) i r > rd D i
    · refine ev_pos c (ev_val (Ev.now _) ?_)
      symm
      refine fixF_none _ _ _ (fun x h1 h2 e => ?_)
      have := needS_mono J (by omega) h1 (o.take (o.length - 1)) (rd L i) (rd L i) hOf (Int.le_refl _)
      have e1 : needOf L P (o.take (o.length - 1)) i x = needS L P x (o.take (o.length - 1)) (rd L i) := rfl
      have e2 : needOf L P (o.take (o.length - 1)) i r = needS L P r (o.take (o.length - 1)) (rd L i) := rfl
      omega
    · have e2 : needOf L P (o.take (o.length - 1)) i r = r := by omega
      refine ev_neg c (ev_pos e2 (ev_val (Ev.now _) ?_))
      rw [show (rd D i + 1 - r).toNat = (rd D i - r).toNat + 1 by omega, fixF, if_pos e2]
  | succ m ih =>
    intro r hr hr2 hm hge
    refine ev_succ ?_
    simp only [impl_Jobs_answer.l0]
    rw [w64 (x := (o.length : Int) - 1) (by omega) (by omega), show ((o.length : Int) - 1).toNat = o.length - 1 by omega]
    refine ev_pos hi0 (ev_pos hi1 (ev_pos (by omega) (ev_pos (by omega) ?_)))
    refine implNeed_ev J o (o.take (o.length - 1)) (by simp; omega) i r hi0 hi1 (by omega) hr2 _ (o.take (o.length - 1)) 0 (rd L i) (by simp) hOf (by omega) (by omega) ?_
    have mono : ∀ x, r ≤ x → needOf L P (o.take (o.length - 1)) i r ≤ needOf L P (o.take (o.length - 1)) i x := fun x hx => needS_mono J (by omega) hx (o.take (o.length - 1)) (rd L i) (rd L i) hOf (Int.le_refl _)
    by_cases c : needOf L P (o.take (o.length - 1)) i r > rd D i
    · refine ev_pos c (ev_val (Ev.now _) ?_)
      symm
      refine fixF_none _ _ _ (fun x h1 h2 e => ?_)
      have := mono x h1
      omega
    · refine ev_neg c ?_
      by_cases e2 : needOf L P (o.take (o.length - 1)) i r = r
      · refine ev_pos e2 (ev_val (Ev.now _) ?_)
        rw [show (rd D i + 1 - r).toNat = (rd D i - r).toNat + 1 by omega, fixF, if_pos e2]
      · refine ev_neg e2 ?_
        have hge2 := mono (needOf L P (o.take (o.length - 1)) i r) hge
        have step := ih (needOf L P (o.take (o.length - 1)) i r) (by omega) (by omega) (by omega) hge2
        refine ev_val step ?_
        have skip := fixF_skip (needOf L P (o.take (o.length - 1)) i) (needOf L P (o.take (o.length - 1)) i r - r).toNat (rd D i + 1 - needOf L P (o.take (o.length - 1)) i r).toNat r (fun x h1 h2 e => by have := mono x h1; omega)
        rw [show (needOf L P (o.take (o.length - 1)) i r - r).toNat + (rd D i + 1 - needOf L P (o.take (o.length - 1)) i r).toNat = (rd D i + 1 - r).toNat by omega] at skip
        rw [skip]
        congr 1
        omega
theorem implAnswer_ev {L P D : List Int} (J : JobsP L P D) (o : List Int) (ho : o.length ≤ 1000) (hof : Of L.length o) (a : Nat) (ha : a < o.length) :
    Ev (fun k => impl_Jobs_answer.f k L P D (o.take (a + 1))) (ansOf L P D (o.take a) (rd o a)) := by
  have hm : rd o a ∈ o := rd_mem ha
  have hr := hof _ hm
  have hJ := J.at hr.1 hr.2
  have hlen : (o.take (a + 1)).length = a + 1 := by rw [List.length_take]; omega
  have hlast : rd (o.take (a + 1)) ((a : Nat) : Int) = rd o a := by
    rw [rd_nat, rd_nat, List.getD_eq_getElem?_getD, List.getD_eq_getElem?_getD, List.getElem?_take_of_lt (by omega)]
  have htake : (o.take (a + 1)).take ((o.take (a + 1)).length - 1) = o.take a := by rw [hlen, List.take_take]; congr 1; omega
  have hOf1 : Of L.length (o.take (a + 1)) := fun x hx => hof x (List.mem_of_mem_take hx)
  have hOf : Of L.length (o.take a) := fun x hx => hof x (List.mem_of_mem_take hx)
  unfold impl_Jobs_answer.f
  rw [hlen, w64 (x := ((a + 1 : Nat) : Int) - 1) (by omega) (by omega), show ((a + 1 : Nat) : Int) - 1 = ((a : Nat) : Int) by omega, hlast]
  refine ev_pos (by omega) (ev_pos (by omega) (ev_pos (by omega) (ev_pos (by omega) ?_)))
  have hge : ∀ r, 0 ≤ r → rd L (rd o a) ≤ needOf L P (o.take a) (rd o a) r := fun r h => (needS_ge J h (o.take a) (rd L (rd o a)) hOf).1
  have h := implFix_ev J (o.take (a + 1)) (by omega) (by omega) hOf1 (rd o a) hr.1 hr.2 60 (rd L (rd o a)) (by omega) (by omega) (by omega) (by rw [htake]; exact hge _ (by omega))
  rw [htake] at h
  refine ev_val h ?_
  unfold ansOf
  have no : ∀ x, 1 ≤ x → x < rd L (rd o a) → needOf L P (o.take a) (rd o a) x ≠ x := fun x h1 h2 e => by have := hge x (by omega); omega
  by_cases c : rd L (rd o a) ≤ rd D (rd o a) + 1
  · have skip := fixF_skip (needOf L P (o.take a) (rd o a)) (rd L (rd o a) - 1).toNat (rd D (rd o a) + 1 - rd L (rd o a)).toNat 1 (fun x h1 h2 => no x h1 (by omega))
    rw [show (rd L (rd o a) - 1).toNat + (rd D (rd o a) + 1 - rd L (rd o a)).toNat = (rd D (rd o a)).toNat by omega] at skip
    rw [skip]
    congr 1
    omega
  · rw [fixF_none _ (rd D (rd o a)).toNat 1 (fun x h1 h2 => no x h1 (by omega)), show (rd D (rd o a) + 1 - rd L (rd o a)).toNat = 0 by omega]
    rfl
theorem implAnswers_loop {L P D : List Int} (J : JobsP L P D) (o : List Int) (ho : o.length ≤ 1000) (hof : Of L.length o) : ∀ (d a : Nat) (out : List Int), a + d = o.length → out.length = L.length →
    Ev (fun k => impl_AnswersOf.l0 k o out o (o.length : Int) a L P D) (answersF L P D o d a out, 0) := by
  have hn := J.n8
  intro d
  induction d with
  | zero =>
    intro a out ha hout
    refine ev_succ ?_
    simp only [impl_AnswersOf.l0]
    exact ev_neg (by omega) (Ev.now _)
  | succ d ih =>
    intro a out ha hout
    have hm : rd o a ∈ o := rd_mem (by omega)
    have hr := hof _ hm
    refine ev_succ ?_
    simp only [impl_AnswersOf.l0]
    rw [show wrap64 ((a : Int) + 1) = ((a + 1 : Nat) : Int) from w64n (by omega), Int.toNat_natCast]
    exact ev_pos (by omega) (ev_pos (by omega) (ev_pos (by omega) (ev_pos (by omega) (ev_pos (by omega) (Ev.bind (implAnswer_ev J o ho hof a (by omega)) (ev_pos (by omega) (ev_pos (by omega) (ih (a + 1) _ (by omega) (by simp [hout])))))))))
def answersOut (L P D o : List Int) : List Int × Int :=
  if jobsOk L P D = true then (if orderB o L.length = true then (answersF L P D o o.length 0 (List.replicate L.length 0), 0) else ([], 2)) else ([], 1)
theorem order_len {o : List Int} {n : Nat} (h : orderB o n = true) : o.length = n ∧ Of n o := ⟨((orderB_iff o n).mp h).2.1, ((orderB_iff o n).mp h).1⟩
theorem specAnswersOf_ev (L P D o : List Int) (ho : o.length ≤ 35184372088832) : Ev (fun k => spec_AnswersOf.f k L P D o) (answersOut L P D o) := by
  unfold spec_AnswersOf.f answersOut
  refine Ev.bind (l04Is_ev L P D) ?_
  by_cases h : jobsOk L P D = true
  rotate_left
  · rw [if_neg h]; exact ev_neg h (Ev.now _)
  have J := (jobsOk_iff L P D).mp h
  have hn := J.n8
  rw [if_pos h]
  refine ev_pos h (Ev.bind (specOrder_ev o L.length ho (by omega)) ?_)
  by_cases h2 : orderB o L.length = true
  rotate_left
  · rw [if_neg h2]; exact ev_neg h2 (Ev.now _)
  obtain ⟨hl, hof⟩ := order_len h2
  rw [if_pos h2]
  refine ev_pos h2 (ev_pos (by omega) (ev_pos (by omega) ?_))
  rw [Int.toNat_natCast]
  conv => arg 2; rw [← hl]
  exact specAnswers_ev J o (by omega) hof o.length 0 _ (by omega) (by simp [hl])
theorem implAnswersOf_ev (L P D o : List Int) (hL : L.length ≤ 35184372088832) (ho : o.length ≤ 35184372088832) : Ev (fun k => impl_AnswersOf.f k L P D o) (answersOut L P D o) := by
  unfold impl_AnswersOf.f answersOut
  refine ev_bnd (many_some L P D) (ev_bnd (isOrder_some o L.length ho hL) (Ev.bind (implCode2_ev L P D _) ?_))
  by_cases h : jobsOk L P D = true
  rotate_left
  · rw [if_neg h, if_neg h]; exact ev_neg (by omega) (Ev.now _)
  have J := (jobsOk_iff L P D).mp h
  have hn := J.n8
  rw [if_pos h, if_pos h]
  by_cases h2 : orderB o L.length = true
  rotate_left
  · rw [if_neg h2, if_neg h2]; exact ev_neg (by omega) (Ev.now _)
  obtain ⟨hl, hof⟩ := order_len h2
  rw [if_pos h2, if_pos h2]
  refine ev_pos rfl (ev_bnd (many_some L P D) (ev_pos (by omega) (ev_pos (by omega) ?_)))
  rw [Int.toNat_natCast]
  exact implAnswers_loop J o (by omega) hof o.length 0 _ (by omega) (by simp)
theorem answersOut_length (L P D o : List Int) : (answersOut L P D o).1.length ≤ 8 := by
  unfold answersOut
  by_cases h : jobsOk L P D = true
  · rw [if_pos h]
    split
    · show (answersF _ _ _ _ _ _ _).length ≤ 8
      rw [answersF_length, List.length_replicate]
      exact ((jobsOk_iff L P D).mp h).n8
    · simp
  · rw [if_neg h]; simp
end Go.Proofs.Ytmgdobiloapelaa.Cb
