/- Jobs whose answers are all there in some order can be met. -/
import Derived.Test.YtmgdobiloapelaaQAns
import Derived.Test.YtmgdobiloapelaaQDem
set_option linter.unusedVariables false
set_option linter.unusedSimpArgs false
namespace Go.Proofs.Ytmgdobiloapelaa.Vf
open Go Go.V Go.RowKit

def sumL4 (f : Nat → Int) : List Int → Int
  | [] => 0
  | x :: s => f x.toNat + sumL4 f s

theorem sumL4_ind {f : Nat → Int} {n : Nat} : ∀ l : List Int, l.Nodup → (∀ x ∈ l, 0 ≤ x ∧ x < (n : Int)) → sumL4 f l = sumZ (fun j => if (j : Int) ∈ l then f j else 0) n
  | [], _, _ => (sumZ_is0 fun j _ => by simp).symm
  | x :: l, hn, hr => by
    rw [List.nodup_cons] at hn
    have ih := sumL4_ind (f := f) l hn.2 (fun y hy => hr y (by simp [hy]))
    have hx := hr x (by simp)
    have e : sumZ (fun j : Nat => if (j : Int) ∈ x :: l then f j else 0) n = sumZ (fun j : Nat => if j = x.toNat then f x.toNat else 0) n + sumZ (fun j : Nat => if (j : Int) ∈ l then f j else 0) n := by
      rw [← sumZ_add]
      refine sumZ_congr fun j hj => ?_
      by_cases c : j = x.toNat
      · have cx : (j : Int) = x := by omega
        rw [if_pos (by rw [cx]; simp), if_pos c, if_neg (by rw [cx]; exact hn.1), c]; omega
      · have cx : (j : Int) ≠ x := by omega
        rw [if_neg c]
        by_cases c2 : (j : Int) ∈ l
        · rw [if_pos (by simp [c2]), if_pos c2]; omega
        · rw [if_neg (by simp [cx, c2]), if_neg c2]; rfl
    rw [e, sumZ_one, if_pos (by omega), sumL4, ih]

theorem sumL4_one : ∀ l : List Int, sumL4 (fun _ => 1) l = (l.length : Int)
  | [] => rfl
  | x :: l => by rw [sumL4, sumL4_one l, List.length_cons]; push_cast; omega

theorem ord_sum {f : Nat → Int} {o : List Int} {n : Nat} (h : OrdP o n) : sumL4 f o = sumZ f n := by
  obtain ⟨h1, h2, h3⟩ := h
  have e1 := sumL4_ind (f := fun _ => 1) (n := n) o h3 h1
  rw [sumL4_one, h2] at e1
  have e2 : sumZ (fun j : Nat => 1 - (if (j : Int) ∈ o then (1 : Int) else 0)) n + sumZ (fun j : Nat => if (j : Int) ∈ o then (1 : Int) else 0) n = n := by
    rw [← sumZ_add]
    have : ∀ m : Nat, sumZ (fun j : Nat => 1 - (if (j : Int) ∈ o then (1 : Int) else 0) + (if (j : Int) ∈ o then (1 : Int) else 0)) m = m := by
      intro m
      induction m with
      | zero => rfl
      | succ m ih => simp only [sumZ, ih]; push_cast; omega
    exact this n
  rw [sumL4_ind (f := f) (n := n) o h3 h1]
  refine sumZ_congr fun j hj => ?_
  have := sumZ_ge (f := fun j : Nat => 1 - (if (j : Int) ∈ o then (1 : Int) else 0)) (n := n) (q := j) (fun i _ => by split <;> omega) hj
  by_cases c : (j : Int) ∈ o
  · rw [if_pos c]
  · simp only [if_neg c] at this; omega

theorem needS_add (L P : List Int) (r : Int) : ∀ (s : List Int) (a : Int), needS L P r s a = a + needS L P r s 0
  | [], a => by simp [needS]
  | j :: s, a => by
    rw [needS, needS, needS_add L P r s (a + _), needS_add L P r s (0 + _)]
    omega

/-- A step of r slots back. -/
theorem demT_step {L P D : List Int} (J : JobsP L P D) {n r : Int} (hr : 1 ≤ r) (hn : r ≤ n) {x : Int} (h0 : 0 ≤ x) (h1 : x < L.length) : demT L P D n x.toNat ≤ Int.tdiv (r + rd P x - 1) (rd P x) * rd L x + demT L P D (n - r) x.toNat := by
  have hJ := J.at h0 h1
  unfold demT
  rw [← rd_toNat L h0, ← rd_toNat P h0, ← rd_toNat D h0, Int.tdiv_eq_ediv_of_nonneg (by omega)]
  have hp : 0 < rd P x := by omega
  have ec := Int.mul_ediv_add_emod (r + rd P x - 1) (rd P x)
  have mc1 := Int.emod_lt_of_pos (r + rd P x - 1) hp
  generalize hc : (r + rd P x - 1) / rd P x = c at *
  -- r is at most c periods
  have hrc : r ≤ rd P x * c := by omega
  have hc0 : 0 ≤ c := by rw [← hc]; exact Int.ediv_nonneg (by omega) (by omega)
  by_cases d1 : rd D x ≤ n
  · rw [if_pos d1]
    by_cases d2 : rd D x ≤ n - r
    · rw [if_pos d2]
      have h := ediv_mono hp (show n - rd D x ≤ (n - r - rd D x) + rd P x * c by omega)
      rw [Int.add_mul_ediv_left _ _ (show rd P x ≠ 0 by omega)] at h
      have := Int.mul_le_mul_of_nonneg_left (show (n - rd D x) / rd P x + 1 ≤ c + ((n - r - rd D x) / rd P x + 1) by omega) (show 0 ≤ rd L x by omega)
      rw [Int.mul_add (rd L x) c, Int.mul_comm (rd L x) c] at this
      exact this
    · rw [if_neg d2, Int.add_zero, Int.mul_comm c]
      refine Int.mul_le_mul_of_nonneg_left ?_ (by omega)
      have e := Int.mul_ediv_add_emod (n - rd D x) (rd P x)
      have m0 := Int.emod_nonneg (n - rd D x) (show rd P x ≠ 0 by omega)
      by_cases c3 : (n - rd D x) / rd P x + 1 ≤ c
      · exact c3
      · have := Int.mul_le_mul_of_nonneg_left (show c ≤ (n - rd D x) / rd P x by omega) (show 0 ≤ rd P x by omega)
        omega
  · rw [if_neg d1, if_neg (by omega)]
    have := Int.mul_nonneg hc0 (show 0 ≤ rd L x by omega)
    omega

theorem demL_step {L P D : List Int} (J : JobsP L P D) {n r : Int} (hr : 1 ≤ r) (hn : r ≤ n) : ∀ s : List Int, Of L.length s → sumL4 (demT L P D n) s ≤ needS L P r s 0 + sumL4 (demT L P D (n - r)) s
  | [], _ => by simp [sumL4, needS]
  | x :: s, h => by
    have hx := h x (by simp)
    have a := demT_step J hr hn hx.1 hx.2
    have b := demL_step J hr hn s (fun y hy => h y (by simp [hy]))
    rw [needS, needS_add, sumL4, sumL4]
    omega

theorem sumL4_app (f : Nat → Int) : ∀ (s : List Int) (x : Int), sumL4 f (s ++ [x]) = sumL4 f s + f x.toNat
  | [], x => by simp [sumL4]
  | y :: s, x => by rw [List.cons_append, sumL4, sumL4, sumL4_app f s x]; omega

/-- With answers, no demand is too great. -/
theorem ans_dem {L P D : List Int} (J : JobsP L P D) (o : List Int) (hof : Of L.length o) (ha : ∀ a : Nat, a < o.length → ansOf L P D (o.take a) (rd o a) ≠ -1) : ∀ (k : Nat), k ≤ o.length → ∀ n : Nat, sumL4 (demT L P D n) (o.take k) ≤ n := by
  intro k
  induction k with
  | zero => intro _ n; rw [List.take_zero, sumL4]; omega
  | succ k ihk =>
    intro hk n
    induction n using Nat.strongRecOn with
    | _ n ihn =>
      have hx := hof _ (rd_mem (l := o) (i := k) (by omega))
      have hJ := J.at hx.1 hx.2
      have htk : o.take (k + 1) = o.take k ++ [rd o k] := by
        rw [List.take_succ_eq_append_getElem (by omega), rd_lt (by omega)]
      have hOf : Of L.length (o.take k) := fun y hy => hof y (List.mem_of_mem_take hy)
      rcases fixF_range (needOf L P (o.take k) (rd o k)) (rd D (rd o k)).toNat 1 with h | ⟨h1, h2, h3⟩
      · exact absurd h (ha k (by omega))
      · generalize hr : fixF (needOf L P (o.take k) (rd o k)) (rd D (rd o k)).toNat 1 = r at h1 h2 h3
        have hrD : r ≤ rd D (rd o k) := by omega
        rw [htk, sumL4_app]
        by_cases c : r ≤ (n : Int)
        · have s1 := demL_step J (D := D) h1 c (o.take k) hOf
          have s2 := demT_step J (n := n) h1 c hx.1 hx.2
          have e1 : Int.tdiv (r + rd P (rd o k) - 1) (rd P (rd o k)) = 1 := by
            rw [Int.tdiv_eq_ediv_of_nonneg (by omega)]
            exact ediv_uniq (by omega) (by omega) (by omega)
          rw [e1, Int.one_mul] at s2
          have e2 : needS L P r (o.take k) 0 + rd L (rd o k) = r := by
            have := needS_add L P r (o.take k) (rd L (rd o k))
            have h3 : needS L P r (o.take k) (rd L (rd o k)) = r := h3
            omega
          have ih := ihn (n - r.toNat) (by omega)
          rw [htk, sumL4_app, show ((n - r.toNat : Nat) : Int) = (n : Int) - r by omega] at ih
          omega
        · have ih := ihk (by omega) n
          have e : demT L P D n (rd o k).toNat = 0 := by
            unfold demT
            rw [← rd_toNat D hx.1]
            exact if_neg (by omega)
          rw [e]; omega

/-- What stands at the places of the answers. -/
theorem answersF_rd {L P D : List Int} (o : List Int) (hn : o.Nodup) (hof : Of L.length o) : ∀ (d a : Nat) (out : List Int), a + d = o.length → out.length = L.length →
    (∀ j : Nat, (∀ b : Nat, a ≤ b → b < o.length → rd o b ≠ (j : Int)) → rd (answersF L P D o d a out) j = rd out j) ∧ ∀ b : Nat, a ≤ b → b < o.length → rd (answersF L P D o d a out) (rd o b) = ansOf L P D (o.take b) (rd o b) := by
  intro d
  induction d with
  | zero => intro a out h _; exact ⟨fun j _ => rfl, fun b h1 h2 => by omega⟩
  | succ d ih =>
    intro a out h hout
    have hx := hof _ (rd_mem (l := o) (i := a) (by omega))
    obtain ⟨i1, i2⟩ := ih (a + 1) (out.set (rd o a).toNat (ansOf L P D (o.take a) (rd o a))) (by omega) (by simp [hout])
    rw [answersF]
    have inj : ∀ b : Nat, b < o.length → rd o b = rd o a → b = a := by
      intro b hb e
      rw [rd_lt hb, rd_lt (show a < o.length by omega)] at e
      exact (List.getElem_inj hn).1 e
    refine ⟨fun j hj => ?_, fun b h1 h2 => ?_⟩
    · rw [i1 j (fun b h1 h2 => hj b (by omega) h2), rdSet (by omega), if_neg]
      intro e
      exact hj a (Nat.le_refl _) (by omega) (by omega)
    · by_cases c : b = a
      · subst c
        have := i1 (rd o b).toNat (fun b' h1' h2' e => by
          have := inj b' h2' (by omega)
          omega)
        rw [Int.toNat_of_nonneg hx.1] at this
        rw [this, rdSet' hx.1 (by omega), if_pos (by omega)]
      · exact i2 b (by omega) h2

/-- The answers of all. -/
theorem answers_each {L P D o : List Int} (J : JobsP L P D) (h : OrdP o L.length) (j : Nat) (hj : j < L.length) : ∃ b : Nat, b < o.length ∧ rd o b = (j : Int) ∧ rd (answersF L P D o o.length 0 (List.replicate L.length 0)) j = ansOf L P D (o.take b) (j : Int) := by
  have hmem : (j : Int) ∈ o := by
    by_cases c : (j : Int) ∈ o
    · exact c
    · exfalso
      have e1 := ord_sum (f := fun i => if i = j then 1 else 0) h
      rw [sumZ_one, if_pos hj] at e1
      have : ∀ l : List Int, (∀ x ∈ l, 0 ≤ x) → (j : Int) ∉ l → sumL4 (fun i => if i = j then 1 else 0) l = 0 := by
        intro l
        induction l with
        | nil => intro _ _; rfl
        | cons x l ih =>
          intro hx hn
          rw [sumL4, ih (fun y hy => hx y (by simp [hy])) (fun hc => hn (by simp [hc])), if_neg]
          · rfl
          · intro e
            have := hx x (by simp)
            exact hn (by rw [List.mem_cons]; left; omega)
      rw [this o (fun x hx => (h.1 x hx).1) c] at e1
      cases e1
  obtain ⟨b, hb, e⟩ := List.getElem_of_mem hmem
  have e : rd o b = (j : Int) := by rw [rd_lt hb, e]
  refine ⟨b, hb, e, ?_⟩
  have := (answersF_rd (L := L) (P := P) (D := D) o h.2.2 h.1 o.length 0 (List.replicate L.length 0) (by omega) (by simp)).2 b (by omega) hb
  rwa [e] at this

theorem answers_bnd {L P D o : List Int} (J : JobsP L P D) (h : OrdP o L.length) (j : Nat) (hj : j < L.length) (hne : rd (answersF L P D o o.length 0 (List.replicate L.length 0)) j ≠ -1) : rd L j ≤ rd (answersF L P D o o.length 0 (List.replicate L.length 0)) j ∧ rd (answersF L P D o o.length 0 (List.replicate L.length 0)) j ≤ rd D j := by
  obtain ⟨b, hb, e, hv⟩ := answers_each J h j hj
  rw [hv] at hne ⊢
  unfold ansOf at hne ⊢
  rcases fixF_range (needOf L P (o.take b) j) (rd D j).toNat 1 with h' | ⟨h1, h2, h3⟩
  · exact absurd h' hne
  · have hD := (J.each j hj).2.2
    refine ⟨?_, by omega⟩
    have := needS_ge J (r := fixF (needOf L P (o.take b) j) (rd D j).toNat 1) (by omega) (o.take b) (rd L j) (fun y hy => h.1 y (List.mem_of_mem_take hy))
    have h3 : needS L P (fixF (needOf L P (o.take b) j) (rd D j).toNat 1) (o.take b) (rd L j) = _ := h3
    omega

theorem answers_can {L P D o : List Int} (J : JobsP L P D) (h : OrdP o L.length) (hall : ∀ j : Nat, j < L.length → rd (answersF L P D o o.length 0 (List.replicate L.length 0)) j ≠ -1) : (slotsJ L P D).2 < 0 := by
  rw [(jobs_iff J).1]
  intro n h1 h2
  have hof : Of L.length o := h.1
  have := ans_dem J o hof (fun a ha => by
    have hx := hof _ (rd_mem ha)
    have := (answersF_rd (L := L) (P := P) (D := D) o h.2.2 h.1 o.length 0 (List.replicate L.length 0) (by omega) (by simp)).2 a (by omega) ha
    rw [← this, rd_toNat _ hx.1]
    exact hall (rd o a).toNat (by omega)) o.length (Nat.le_refl _) n
  rw [List.take_length, ord_sum h] at this
  exact this

end Go.Proofs.Ytmgdobiloapelaa.Vf
