/- Routes: first routes serve, wider gaps can be watched, and routes that serve can be watched. -/
import Derived.Test.YtcbhhbkghbnljaaQRouteB
import Derived.Test.YtcbhhbkghbnljaaQDraw9
import Derived.Test.YtcbhhbkghbnljaaQStates
set_option linter.unusedVariables false
set_option linter.unusedSimpArgs false
namespace Go.Proofs.Ytcbhhbkghbnljaa.Vf
open Go Go.V Go.RowKit

/-! ### States along turns that serve -/

def lstP : List Int → Int
  | [] => 0
  | f :: Q => lastA f Q

theorem places_ext {cs : List Int} {t : Int} {i : Nat} : ∀ (d : Nat), ∃ R, places cs t (i + d) = places cs t i ++ R ∧ ∀ x ∈ R, (i : Int) ≤ x
  | 0 => ⟨[], by simp, by simp⟩
  | d + 1 => by
    obtain ⟨R, h1, h2⟩ := places_ext (cs := cs) (t := t) (i := i) d
    show ∃ R, (if rd cs ((i + d : Nat) : Int) = t then places cs t (i + d) ++ [((i + d : Nat) : Int)] else places cs t (i + d)) = places cs t i ++ R ∧ ∀ x ∈ R, (i : Int) ≤ x
    by_cases c : rd cs ((i + d : Nat) : Int) = t
    · rw [if_pos c]
      refine ⟨R ++ [((i + d : Nat) : Int)], by rw [h1, List.append_assoc], fun x hx => ?_⟩
      rcases List.mem_append.1 hx with hx | hx
      · exact h2 x hx
      · simp only [List.mem_singleton] at hx; omega
    · rw [if_neg c]; exact ⟨R, h1, h2⟩

theorem dif_mem : ∀ (Q R : List Int) (f q : Int), q - lastA f Q ∈ dif f (Q ++ q :: R)
  | [], R, f, q => by simp [dif, lastA]
  | b :: Q, R, f, q => List.mem_cons_of_mem _ (dif_mem Q R b q)

/-- What a task has left behind a slot. -/
def left (cs : List Int) (t g : Int) (j : Nat) : Int := g - (if (places cs t (j + 1)).length = 0 then j + cs.length - lstP (places cs t cs.length) else j - lstP (places cs t (j + 1)))

theorem left_bnd {cs : List Int} {t g : Int} {j : Nat} (hok : okT cs t g = true) (hj : j < cs.length) : 1 ≤ left cs t g j ∧ left cs t g j ≤ g := by
  obtain ⟨o1, o2⟩ := of_decide_eq_true hok
  have o3 := (grt_le.1 o2).2
  have hb := places_bnd cs t cs.length
  obtain ⟨R, h1, h2⟩ := places_ext (cs := cs) (t := t) (i := j + 1) (cs.length - (j + 1))
  rw [show j + 1 + (cs.length - (j + 1)) = cs.length by omega] at h1
  have hbj := places_bnd cs t (j + 1)
  unfold wait at o1 o3
  unfold left
  cases hP : places cs t (j + 1) with
  | nil =>
    rw [hP, List.nil_append] at h1
    rw [if_pos List.length_nil]
    cases R with
    | nil => rw [h1] at o1; exact absurd o1 (by simp [wts])
    | cons f Q =>
      rw [h1] at o3 hb
      have q1 := o3 ((cs.length : Int) - lastA f Q + f) (List.mem_append_right _ (by simp))
      have q2 := h2 f (by simp)
      have q3 := hb _ (lastA_mem Q f)
      rw [h1]
      show 1 ≤ g - ((j : Int) + cs.length - lastA f Q) ∧ g - ((j : Int) + cs.length - lastA f Q) ≤ g
      omega
  | cons f Q =>
    rw [hP] at h1 hbj
    rw [if_neg (by simp)]
    have q3 := hbj _ (lastA_mem Q f)
    have q4 := hbj f (by simp)
    show 1 ≤ g - ((j : Int) - lastA f Q) ∧ g - ((j : Int) - lastA f Q) ≤ g
    cases R with
    | nil =>
      rw [List.append_nil] at h1
      rw [h1] at o3
      have q1 := o3 ((cs.length : Int) - lastA f Q + f) (List.mem_append_right _ (by simp))
      omega
    | cons q R =>
      rw [h1] at o3
      have q1 := o3 (q - lastA f Q) (List.mem_append_left _ (dif_mem Q R f q))
      have q2 := h2 q (by simp)
      omega

theorem left_at {cs : List Int} {t g : Int} {j : Nat} (h : rd cs j = t) : left cs t g j = g := by
  have e : places cs t (j + 1) = places cs t j ++ [(j : Int)] := if_pos h
  have e2 : lstP (places cs t j ++ [(j : Int)]) = j := by
    cases places cs t j with
    | nil => rfl
    | cons f Q => exact lastA_app Q f j
  unfold left
  rw [e, if_neg (by simp), e2]; omega

theorem left_next {cs : List Int} {t g : Int} {j : Nat} (hok : okT cs t g = true) (hj : j < cs.length) : left cs t g (sc cs.length j) = if rd cs (sc cs.length j : Nat) = t then g else left cs t g j - 1 := by
  by_cases c : rd cs (sc cs.length j : Nat) = t
  · rw [if_pos c]; exact left_at c
  · rw [if_neg c]
    rw [sc_eq hj] at c ⊢
    by_cases c2 : j + 1 < cs.length
    · rw [if_pos c2] at c ⊢
      have e : places cs t (j + 1 + 1) = places cs t (j + 1) := if_neg c
      unfold left
      rw [e]
      split
      · push_cast; omega
      · push_cast; omega
    · rw [if_neg c2] at c ⊢
      have e : places cs t (0 + 1) = [] := if_neg c
      have ej : j + 1 = cs.length := by omega
      obtain ⟨o1, _⟩ := of_decide_eq_true hok
      unfold wait at o1
      rw [wts_len] at o1
      unfold left
      rw [e, ej, if_pos List.length_nil, if_neg (by omega)]
      omega

def leftS (G cs : List Int) (j : Nat) : List Int := (List.range G.length).map fun t : Nat => left cs t (rd G t) j

theorem leftS_len (G cs : List Int) (j : Nat) : (leftS G cs j).length = G.length := by simp [leftS]
theorem leftS_rd {G cs : List Int} {j t : Nat} (ht : t < G.length) : rd (leftS G cs j) t = left cs t (rd G t) j := by
  rw [rd_nat]
  unfold leftS
  rw [List.getD_eq_getElem?_getD, List.getElem?_map, List.getElem?_range ht]; rfl

theorem stt_of : ∀ {G S : List Int}, S.length = G.length → (∀ t : Nat, t < G.length → 1 ≤ rd S t ∧ rd S t ≤ rd G t) → Stt G S
  | [], [], _, _ => trivial
  | g :: G, s :: S, hl, h => by
    refine ⟨h 0 (by simp), stt_of (by simpa using hl) fun t ht => ?_⟩
    have := h (t + 1) (by simpa using ht)
    rwa [rd_cons, rd_cons] at this
  | [], _ :: _, hl, _ => by simp at hl
  | _ :: _, [], hl, _ => by simp at hl

theorem step_of {c : Int} : ∀ {j : Int} {G S T : List Int}, S.length = G.length → T.length = G.length → (∀ t : Nat, t < G.length → (j + t = c → rd T t = rd G t) ∧ (j + t ≠ c → 2 ≤ rd S t ∧ rd T t = rd S t - 1)) → stepA c j G S = some T
  | j, [], [], [], _, _, _ => rfl
  | j, g :: G, s :: S, u :: T, h1, h2, h => by
    have ih := step_of (c := c) (j := j + 1) (G := G) (S := S) (T := T) (by simpa using h1) (by simpa using h2) (fun t ht => by
      have := h (t + 1) (by simpa using ht)
      rw [rd_cons, rd_cons, rd_cons] at this
      refine ⟨fun e => this.1 (by rw [← e]; push_cast; omega), fun e => this.2 (fun e' => e (by rw [← e']; push_cast; omega))⟩)
    have h0 := h 0 (by simp)
    have z : ∀ (a : Int) (l : List Int), rd (a :: l) ((0 : Nat) : Int) = a := fun a l => rfl
    rw [z, z, z] at h0
    unfold stepA
    by_cases e : j = c
    · rw [if_pos e, ih, ← h0.1 (by omega)]; rfl
    · obtain ⟨a1, a2⟩ := h0.2 (by omega)
      rw [if_neg e, if_neg (by omega), ih, a2]; rfl
  | j, [], _ :: _, _, h, _, _ => by simp at h
  | j, [], [], _ :: _, _, h, _ => by simp at h
  | j, _ :: _, [], _, h, _, _ => by simp at h
  | j, _ :: _, _ :: _, [], _, h, _ => by simp at h

/-- Routes that serve can be watched. -/
theorem serves_can {p r : Int} {G cs : List Int} (hf : codeW p r G = 0) (hT : turnsW p cs = true) (hR : routeF r cs 0 cs.length = true) (hS : servB G cs 0 G.length = true) : (canW p r G).1 = true := by
  have W := codeW_zero hf
  have hp := W.p1
  have hl := W.l
  obtain ⟨t1, t2⟩ := turnsW_el hp.1 hp.2 hT
  have hrt : ∀ j, j < cs.length → (0 ≤ rd cs j ∧ 0 ≤ rd cs (sc cs.length j : Nat)) ∧ nearV r (rd cs j) (rd cs (sc cs.length j : Nat)) = true := by
    intro j hj
    have := routeF_iff.1 hR j (by omega) (by omega)
    unfold routeB at this
    simp only [Bool.and_eq_true, decide_eq_true_eq] at this
    exact ⟨⟨this.1, this.2.1⟩, this.2.2⟩
  have hok : ∀ t : Nat, t < G.length → okT cs t (rd G t) = true := fun t ht => servB_iff.1 hS t (by omega) (by omega)
  have st : ∀ j, j < cs.length → Stt G (leftS G cs j) := fun j hj => stt_of (leftS_len G cs j) fun t ht => by rw [leftS_rd ht]; exact left_bnd (hok t ht) hj
  have key := safe_sup W (X := fun S q => ∃ j, j < cs.length ∧ S = leftS G cs j ∧ q = rd cs j) (fun S q hx => by
    obtain ⟨j, hj, rfl, rfl⟩ := hx
    have b1 := (hrt j hj).1
    have b2 := t2 j hj
    obtain ⟨t, ht⟩ := Int.eq_ofNat_of_zero_le b1.1
    refine ⟨st j hj, b1.1, by omega, ?_⟩
    rw [ht, leftS_rd (by omega)]
    exact left_at ht) (fun S q hx => by
    obtain ⟨j, hj, rfl, rfl⟩ := hx
    have hs := sc_lt (n := cs.length) (i := j) t1.1
    have b1 := hrt j hj
    have b2 := t2 (sc cs.length j) hs
    obtain ⟨t, ht⟩ := Int.eq_ofNat_of_zero_le b1.1.2
    refine ⟨t, leftS G cs (sc cs.length j), by omega, by rw [← ht]; exact b1.2, ?_, sc cs.length j, hs, rfl, ht.symm⟩
    refine step_of (leftS_len _ _ _) (leftS_len _ _ _) fun u hu => ?_
    rw [leftS_rd hu, leftS_rd hu, left_next (hok u hu) hj, ht, Int.zero_add]
    have c1 := left_bnd (hok u hu) hs
    rw [left_next (hok u hu) hj, ht] at c1
    refine ⟨fun e => by rw [if_pos e.symm], fun e => ?_⟩
    rw [if_neg (fun e' => e e'.symm)] at c1 ⊢
    omega)
  have b := hrt 0 (by omega)
  have b2 := t2 0 (by omega)
  exact can_some hf (st 0 (by omega)) b.1.1 (by omega) (key _ _ ⟨0, by omega, rfl, rfl⟩)

/-! ### The law's ends -/

end Go.Proofs.Ytcbhhbkghbnljaa.Vf
